/- What holds of the memory of Stays between two records. -/
import Derived.Test.YtojadmccenkffaaWalkR
namespace Go.Proofs.Ytojadmccenkffaa
open Go.RowKit

theorem cell_block {w w' : World} {b : Nat} (h : w'.heap[b]? = w.heap[b]?) (o : Nat) : w'.cell? ⟨b, o, none⟩ = w.cell? ⟨b, o, none⟩ := by
  simp [World.cell?, h]
theorem free_block {w w' : World} {b : Nat} (h : w'.heap[b]? = w.heap[b]?) (o : Nat) : w'.frozen? ⟨b, o, none⟩ = w.frozen? ⟨b, o, none⟩ := by
  simp [World.frozen?, h]
/-- Block bm is the map; the queues are those of the list Lq; the list L lies in a row of the call's own. -/
structure Inv (w : World) (B bm : Nat) (D : DataW Value) (n : Nat) (Lq L : List (Qr.St × Bool)) (A : Option Addr) (cap : Nat) : Prop where
  map : QMap w bm n D
  all : OwnL ocs 55 6 w B A cap L
  q : ∀ κ, KOk κ → QRow w B (look D κ) (Qr.opensF κ 0 Lq)
  apart : ∀ κ κ', KOk κ → KOk κ' → κ' ≠ κ → (look D κ').ownBlock = none ∨ (look D κ').ownBlock ≠ (look D κ).ownBlock
theorem var_kept {W w1 w2 w3 : World} {x bm : Nat} {row : Option Nat} (hx : x < W.heap.size) (hxm : x ≠ bm) (hxv : row ≠ some x) (g1 : W.grownBy w1 (some bm)) (g2 : w1.grownBy w2 row) (g3 : w2.grownBy w3 (some bm)) (j : Nat) : w3.cell? ⟨x, j, none⟩ = W.cell? ⟨x, j, none⟩ := by
  have h1 := Nat.lt_of_lt_of_le hx g1.size
  have h2 := Nat.lt_of_lt_of_le h1 g2.size
  have e1 := g1.block x hx (by simpa using hxm)
  have e2 := g2.block x h1 (fun e => hxv e.symm)
  have e3 := g3.block x h2 (by simpa using hxm)
  exact cell_block (e3.trans (e2.trans e1)) j
theorem below_three {W w0 w1 w2 w3 : World} {B bm : Nat} {row : Option Nat} (h : Below B w0 W) (hB : B ≤ W.heap.size) (hm : B ≤ bm) (hr : ∀ k, row = some k → B ≤ k) (g1 : W.grownBy w1 (some bm)) (g2 : w1.grownBy w2 row) (g3 : w2.grownBy w3 (some bm)) : Below B w0 w3 := by
  have hmm : ∀ k, some bm = some k → B ≤ k := fun k e => by cases e; exact hm
  have h1 := h.grown g1 hB hmm
  have hB1 := Nat.le_trans hB g1.size
  have h2 := h1.grown g2 hB1 hr
  exact h2.grown g3 (Nat.le_trans hB1 g2.size) hmm
theorem QMap.obj {w : World} {b n : Nat} {D : DataW Value} (h : QMap w b n D) : ∃ es c, w.heap[b]? = some (.map es c) := by
  obtain ⟨es, c, hb, _⟩ := h
  exact ⟨es, c, hb⟩
section
variable {w w' : World} {B bm n : Nat} {D : DataW Value} {Lq L : List (Qr.St × Bool)} {A : Option Addr} {cap : Nat}
theorem Inv.q_ne_map (h : Inv w B bm D n Lq L A cap) {κ : Qr.K3} (hk : KOk κ) : (look D κ).ownBlock ≠ some bm := fun e => by
  obtain ⟨cur, hc⟩ := (h.q κ hk).type bm e
  obtain ⟨es, c, hm⟩ := h.map.obj
  rw [hc] at hm
  cases hm
theorem Inv.all_ne_map (h : Inv w B bm D n Lq L A cap) {g : Nat} (hA : A = some ⟨g, 0, none⟩) : g ≠ bm := fun e => by
  obtain ⟨cur, hc⟩ := h.all.type hA
  obtain ⟨es, c, hm⟩ := h.map.obj
  rw [e] at hc
  rw [hc] at hm
  cases hm
theorem Inv.all_ne_q (h : Inv w B bm D n Lq L A cap) {κ : Qr.K3} (hk : KOk κ) {g : Nat} (hA : A = some ⟨g, 0, none⟩) : (look D κ).ownBlock ≠ some g := fun e => by
  obtain ⟨cur, hc⟩ := (h.q κ hk).type g e
  obtain ⟨cur2, hc2⟩ := h.all.type hA
  rw [hc] at hc2
  injection hc2 with hc2
  injection hc2 with _ hc2
  cases hc2
theorem Inv.below (h : Inv w B bm D n Lq L A cap) (hb : Below w.heap.size w w') : Inv w' B bm D n Lq L A cap :=
  ⟨h.map.kept (grown_below hb) (by simp), h.all.below hb, fun κ hk => (h.q κ hk).kept (grown_below hb) (by
    cases hx : (look D κ).ownBlock with
    | none => exact .inl rfl
    | some k => exact .inr (by simp)), h.apart⟩
theorem tail_block (g off cap m : Nat) : (Value.slice (if cap = 1 then some ⟨g, off, none⟩ else some ⟨g, off + 1, none⟩) m (cap - 1)).ownBlock = some g := by
  split <;> rfl
/-- The first of a queue is taken out. -/
theorem Inv.pop (h : Inv w B bm D n L L A cap) {κ : Qr.K3} (hk : KOk κ) {z : Nat} {zs : List Nat} (hq : Qr.opensF κ 0 L = z :: zs) {w1 : World} {v' : Value} (hq1 : QRow w B v' zs) (hv : v'.ownBlock = (look D κ).ownBlock)
    (hm1 : QMap w1 bm (n + 1) (D.put (kl κ) (.held v'))) (hg1 : w.grownBy w1 (some bm)) (t : Int) {g : Nat} (hA : A = some ⟨g, 0, none⟩) :
    Inv ((w1.setCell ⟨g, z * 6 + 4, none⟩ (.int .i64 t)).setCell ⟨g, z * 6 + 5, none⟩ (.bool true)) B bm (D.put (kl κ) (.held v')) (n + 1) (Qr.closeAt z t L) (Qr.closeAt z t L) A cap := by
  have hz := Qr.opensF_at κ L 0 z (by rw [hq]; simp)
  obtain ⟨s, hs, hsk⟩ := hz
  rw [Nat.sub_zero] at hs
  have hzl : z < L.length := (List.getElem?_eq_some_iff.1 hs).1
  have hgm : g ≠ bm := h.all_ne_map hA
  have hall1 : OwnL ocs 55 6 w1 B A cap L := h.all.kept hg1 (fun g' hA' e => by
    simp only [Option.some.injEq] at e
    exact h.all_ne_map hA' e.symm)
  have hgr : w1.grownBy ((w1.setCell ⟨g, z * 6 + 4, none⟩ (.int .i64 t)).setCell ⟨g, z * 6 + 5, none⟩ (.bool true)) (some g) := by
    have g1 := grown_set w1 g (z * 6 + 4) (.int .i64 t)
    have g2 := grown_set (w1.setCell ⟨g, z * 6 + 4, none⟩ (.int .i64 t)) g (z * 6 + 5) (.bool true)
    exact g1.trans g2
  have hqv : ∀ κ', KOk κ' → (look (D.put (kl κ) (.held v')) κ').ownBlock ≠ some g := fun κ' hk' => by
    by_cases he : κ' = κ
    · subst he
      rw [look_same h.map hk, hv]
      exact h.all_ne_q hk hA
    · rw [look_other hk hk' he]
      exact h.all_ne_q hk' hA
  have orn : ∀ {a b : Option Nat}, a ≠ b → a = none ∨ a ≠ b := fun h => .inr h
  refine ⟨hm1.kept hgr (by simpa using fun e => hgm e.symm), ?_, fun κ' hk' => ?_, fun κ₁ κ₂ hk1 hk2 hne => ?_⟩
  · have s1 := World.ownsRow.stored (by rw [hA] at hall1; exact hall1) (z * 6 + 4) (.int .i64 t)
    have s2 := World.ownsRow.stored s1.1 (z * 6 + 5) (.bool true)
    unfold OwnL
    rw [Qr.closeAt_len, hA]
    have e : ((L.flatMap ocs).set (z * 6 + 4) (.int .i64 t)).set (z * 6 + 5) (.bool true) = (Qr.closeAt z t L).flatMap ocs := by
      clear s1 s2 hgr hall1 hq hq1 hm1 hs hsk hqv h
      induction L generalizing z with
      | nil => simp at hzl
      | cons x L ih =>
        cases z with
        | zero =>
          rw [Qr.closeAt, List.flatMap_cons, List.flatMap_cons]
          rfl
        | succ z =>
          rw [Qr.closeAt, List.flatMap_cons, List.flatMap_cons, ← ih (by simpa using hzl)]
          have hl : (ocs x).length = 6 := rfl
          rw [List.set_append_right _ _ (by rw [hl]; omega), List.set_append_right _ _ (by rw [hl]; omega), hl]
          have e1 : (z + 1) * 6 + 4 - 6 = z * 6 + 4 := by omega
          have e2 : (z + 1) * 6 + 5 - 6 = z * 6 + 5 := by omega
          rw [e1, e2]
    rw [← e]
    exact s2.1
  · by_cases he : κ' = κ
    · subst he
      rw [look_same h.map hk]
      have e1 := Qr.opensF_same t L 0 z zs hq
      rw [Nat.sub_zero] at e1
      rw [e1]
      refine (hq1.kept hg1 (orn ?_)).kept hgr (orn ?_)
      · rw [hv]; exact h.q_ne_map hk
      · rw [hv]; exact h.all_ne_q hk hA
    · rw [look_other hk hk' he, Qr.opensF_other t L 0 z (fun s' d hs' e => by
        rw [hs] at hs'
        cases hs'
        exact he (e.symm.trans hsk))]
      exact ((h.q κ' hk').kept hg1 (orn (h.q_ne_map hk'))).kept hgr (orn (h.all_ne_q hk' hA))
  · have lb : ∀ κ', KOk κ' → (look (D.put (kl κ) (.held v')) κ').ownBlock = (look D κ').ownBlock := fun κ' hk' => by
      by_cases he : κ' = κ
      · subst he; rw [look_same h.map hk, hv]
      · rw [look_other hk hk' he]
    rw [lb κ₁ hk1, lb κ₂ hk2]
    exact h.apart κ₁ κ₂ hk1 hk2 hne
/-- A place is added to a queue. -/
theorem Inv.push (h : Inv w B bm D n L L A cap) {κ : Qr.K3} (hk : KOk κ) {w1 w2 w3 : World} {v' : Value} (hg1 : w.grownBy w1 (some bm)) (hq2 : QRow w2 B v' (Qr.opensF κ 0 L ++ [L.length])) (hg2 : w1.grownBy w2 (look D κ).ownBlock)
    (hloc : v'.ownBlock = (look D κ).ownBlock ∨ ∃ g, v'.ownBlock = some g ∧ w1.heap.size ≤ g) (hm3 : QMap w3 bm (n + 1) (D.put (kl κ) (.held v'))) (hg3 : w2.grownBy w3 (some bm)) (s : Qr.St) (hs : s.key = κ) :
    Inv w3 B bm (D.put (kl κ) (.held v')) (n + 1) (L ++ [(s, false)]) L A cap := by
  have orn : ∀ {a b : Option Nat}, a ≠ b → a = none ∨ a ≠ b := fun h => .inr h
  have hvm : v'.ownBlock ≠ some bm := by
    rcases hloc with hloc | ⟨g, hg, hge⟩
    · rw [hloc]; exact h.q_ne_map hk
    · rw [hg]
      have h1 := h.map.lt
      have h2 := hg1.size
      intro e
      simp only [Option.some.injEq] at e
      omega
  have new_ne : ∀ κ', KOk κ' → κ' ≠ κ → (look D κ').ownBlock = none ∨ (look D κ').ownBlock ≠ v'.ownBlock := fun κ' hk' hne => by
    rcases hloc with hloc | ⟨g, hg, hge⟩
    · rw [hloc]; exact h.apart κ κ' hk hk' hne
    · cases hx : (look D κ').ownBlock with
      | none => exact .inl rfl
      | some k =>
        have h1 := ((h.q κ' hk').lt k hx).2
        have h2 := hg1.size
        rw [hg]
        refine .inr (fun e => ?_)
        simp only [Option.some.injEq] at e
        omega
  refine ⟨hm3, ?_, fun κ' hk' => ?_, fun κ₁ κ₂ hk1 hk2 hne => ?_⟩
  · refine ((h.all.kept hg1 (fun g hA e => ?_)).kept hg2 (fun g hA => ?_)).kept hg3 (fun g hA e => ?_)
    · simp only [Option.some.injEq] at e
      exact h.all_ne_map hA e.symm
    · exact h.all_ne_q hk hA
    · simp only [Option.some.injEq] at e
      exact h.all_ne_map hA e.symm
  · by_cases he : κ' = κ
    · subst he
      rw [look_same h.map hk, Qr.opensF_snoc, if_pos (Qr.sameK_iff.2 hs), Nat.zero_add]
      exact hq2.kept hg3 (orn hvm)
    · rw [look_other hk hk' he, Qr.opensF_snoc, if_neg (fun e => he ((Qr.sameK_iff.1 e).symm.trans hs)), List.append_nil]
      exact (((h.q κ' hk').kept hg1 (orn (h.q_ne_map hk'))).kept hg2 (h.apart κ κ' hk hk' he)).kept hg3 (orn (h.q_ne_map hk'))
  · by_cases h1 : κ₁ = κ
    · subst h1
      rw [look_same h.map hk, look_other hk hk2 hne]
      exact new_ne κ₂ hk2 hne
    · by_cases h2 : κ₂ = κ
      · subst h2
        rw [look_same h.map hk, look_other hk hk1 h1]
        rcases new_ne κ₁ hk1 h1 with h3 | h3
        · rw [h3]
          cases v'.ownBlock with
          | none => exact .inl rfl
          | some k => exact .inr (by simp)
        · exact .inr (fun e => h3 e.symm)
      · rw [look_other hk hk1 h1, look_other hk hk2 h2]
        exact h.apart κ₁ κ₂ hk1 hk2 hne
/-- The list itself grows. -/
theorem Inv.grow (h : Inv w B bm D n Lq L A cap) {A' : Option Addr} {cap' : Nat} (hown : OwnL ocs 55 6 w' B A' cap' Lq) (hg : w.grownBy w' (Value.slice A L.length cap).ownBlock) : Inv w' B bm D n Lq Lq A' cap' := by
  have hA : ∀ g, (Value.slice A L.length cap).ownBlock = some g → A = some ⟨g, 0, none⟩ := fun g e => by
    rcases h.all.2 with ⟨hv, _⟩ | ⟨g', cap'', cur, hv, _⟩
    · rw [hv] at e; simp [Value.ownBlock] at e
    · rw [hv] at e
      simp [Value.ownBlock] at e
      subst e
      simp only [Value.slice.injEq] at hv
      exact hv.1
  refine ⟨h.map.kept hg (fun e => h.all_ne_map (hA bm e.symm) rfl), hown, fun κ hk => (h.q κ hk).kept hg ?_, h.apart⟩
  cases hx : (Value.slice A L.length cap).ownBlock with
  | none =>
    cases hy : (look D κ).ownBlock with
    | none => exact .inl rfl
    | some k => exact .inr (by simp)
  | some g => exact .inr (h.all_ne_q hk (hA g hx))
end
end Go.Proofs.Ytojadmccenkffaa
