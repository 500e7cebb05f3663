/- The walk of PutInts. -/
import Derived.Test.YtelanbiedfldgaaWalkG
namespace Go.Proofs.Ytelanbiedfldgaa
open Go.RowKit

/-- A slice of ints that can be read: its elements are the list. -/
def Ints (w : World) (B : Nat) (A : Option Addr) (l : List Int) : Prop :=
  0 < l.length → ∃ b off, A = some ⟨b, off, none⟩ ∧ b < B ∧ ∀ k, k < l.length → w.cell? ⟨b, off + k, none⟩ = some (.int .i64 (l.getD k 0))
theorem Ints.nil (w : World) (B : Nat) (A : Option Addr) : Ints w B A [] := fun h => by simp at h
theorem Ints.below {w w' : World} {B : Nat} {A : Option Addr} {l : List Int} (h : Ints w B A l) (hb : Below B w w') : Ints w' B A l := fun hl => by
  obtain ⟨b, off, e, hlt, hc⟩ := h hl
  exact ⟨b, off, e, hlt, fun k hk => (hb.cell (p := ⟨b, off + k, none⟩) hlt).trans (hc k hk)⟩
theorem Ints.more {w : World} {B B' : Nat} {A : Option Addr} {l : List Int} (h : Ints w B A l) (hB : B ≤ B') : Ints w B' A l := fun hl => by
  obtain ⟨b, off, e, hlt, hc⟩ := h hl
  exact ⟨b, off, e, by omega, hc⟩
def I64 (l : List Int) : Prop := ∀ x ∈ l, -9223372036854775808 ≤ x ∧ x ≤ 9223372036854775807
theorem I64.getD {l : List Int} (h : I64 l) (k : Nat) : -9223372036854775808 ≤ l.getD k 0 ∧ l.getD k 0 ≤ 9223372036854775807 := by
  rw [List.getD_eq_getElem?_getD]
  by_cases hk : k < l.length
  · rw [List.getElem?_eq_getElem hk]; exact h _ (List.getElem_mem hk)
  · rw [List.getElem?_eq_none (by omega)]; decide

def Tail (w : World) (B : Nat) (A : Option Addr) (cap : Nat) (L : List Nat) : Prop :=
  OwnY w B A cap L ∨ ∃ g, A = some ⟨g, 0, none⟩ ∧ cap = L.length ∧ B ≤ g ∧ g < w.heap.size ∧ ∀ k, k < L.length → w.cell? ⟨g, k, none⟩ = some (.int .u8 (L.getD k 0 : Nat))
theorem Tail.byts {w : World} {B : Nat} {A : Option Addr} {cap : Nat} {L : List Nat} (h : Tail w B A cap L) : Byts w w.heap.size A L := by
  rcases h with h | ⟨g, rfl, rfl, hB, hg, hc⟩
  · exact h.byts
  · exact EncPost.byts hg hc
theorem Tail.below {w w' : World} {B : Nat} {A : Option Addr} {cap : Nat} {L : List Nat} (h : Tail w B A cap L) (hb : Below w.heap.size w w') : Tail w' B A cap L := by
  rcases h with h | ⟨g, rfl, rfl, hB, hg, hc⟩
  · exact .inl (h.below hb)
  · exact .inr ⟨g, rfl, rfl, hB, Nat.lt_of_lt_of_le hg hb.size, fun k hk => (hb.cell (p := ⟨g, k, none⟩) hg).trans (hc k hk)⟩
theorem owny_shape {w : World} {B : Nat} {v : Value} {n : Nat} {L : List Nat} {xs : List Value} (h : w.ownsRow B 5 1 v n xs) (hn : n = L.length) (hx : xs = bcells L) : ∃ A cap, v = .slice A L.length cap ∧ OwnY w B A cap L := by
  subst hn; subst hx
  rcases h.2 with ⟨hv, h0⟩ | ⟨g, cap', cur, hv, hb, rest⟩
  · refine ⟨none, 0, by rw [hv, h0], ?_⟩
    have : L = [] := List.eq_nil_of_length_eq_zero h0
    subst this
    exact World.ownsRow_nil _ _ _ _
  · refine ⟨some ⟨g, 0, none⟩, cap', hv, ?_⟩
    subst hv
    exact h
/-- 'append(tail, e...)', tail a Tail. -/
theorem wpList_append_tail {w : World} {ops : Array Oper} {rest : List Oper} {o : Oper} {a : Act} {Q : Exit → Act → World → Prop} (hgd : o.guard = none) (sl x : Operand)
    (ho : o.op = .call { callee := .builtin .append, args := #[sl, x], argTypes := #[22, 22] })
    (B : Nat) (A : Option Addr) (cap : Nat) (L : List Nat) (hs : a.eval sl = .slice A L.length cap) (hT : Tail w B A cap L)
    (g : Nat) (E : List Nat) (hx : a.eval x = .slice (some ⟨g, 0, none⟩) E.length E.length) (hc : ∀ k, k < E.length → w.cell? ⟨g, k, none⟩ = some (.int .u8 (E.getD k 0 : Nat))) (hE : 0 < E.length)
    (hl : L.length + E.length ≤ 1000000) (hB : B ≤ w.heap.size)
    (h : ∀ A' cap' w', OwnY w' B A' cap' (L ++ E) → Below B w w' → wpList Try.prog ops Q rest (a.put o.dst (.slice A' (L ++ E).length cap')) w') : wpList Try.prog ops Q (o :: rest) a w := by
  obtain ⟨i, hi, hz, hsz, hby⟩ := info_parts Try.size5
  have hnews := cells_of hc
  rcases hT with hT | ⟨g1, rfl, rfl, hB1, hg1, hc1⟩
  · refine wpList_append_own w hgd sl x 22 ho B 5 i (.int .u8 0) 1 1 Try.underlying22 hi hz hsz hby rfl (by decide) _ L.length (bcells L) hs hT ⟨g, 0, none⟩ E.length E.length (bcells E) hx (by rw [bcells_len, Nat.mul_one]) hnews (bcells_one _) (by unfold maxLen; omega) (by omega) hB ?_
    intro v' w' h1 h2 _
    obtain ⟨A', cap', rfl, ho'⟩ := owny_shape (L := L ++ E) h1 (by simp) (by simp [bcells])
    exact h A' cap' w' ho' ((Below.refl _ _).grown h2 hB (fun k hk => (World.ownsRow.lt hT k hk).1))
  · refine wpList_append_grows w hgd sl x 22 ho 5 i (.int .u8 0) 1 1 Try.underlying22 hi hz hsz hby rfl (by decide) (some ⟨g1, 0, none⟩) L.length L.length (bcells L) hs (fun e => by cases e) (by rw [bcells_len, Nat.mul_one]) (fun b hb => by cases hb; exact cells_of hc1) ⟨g, 0, none⟩ E.length E.length (bcells E) hx (by rw [bcells_len, Nat.mul_one]) hnews (bcells_one _) (by omega) (by unfold maxLen; omega) (by omega) ?_
    intro v' w' h1 h2
    obtain ⟨A', cap', rfl, ho'⟩ := owny_shape (L := L ++ E) h1 (by simp) (by simp [bcells])
    refine h A' cap' w' ⟨ho'.1, ?_⟩ ((Below.refl _ _).grown h2 hB (fun k hk => by cases hk))
    exact (OwnY.mono ho' hB).2

def encs (l : List Int) : List Nat := l.flatMap fun x => Cd.enc (Cd.num x)
theorem encs_snoc (l : List Int) (k : Nat) (h : k < l.length) : encs (l.take (k + 1)) = encs (l.take k) ++ Cd.enc (Cd.num (l.getD k 0)) := by
  rw [List.take_succ_eq_append_getElem h, List.getD_eq_getElem?_getD, List.getElem?_eq_getElem h]
  unfold encs
  rw [List.flatMap_append]
  simp only [List.flatMap_cons, List.flatMap_nil, List.append_nil, Option.getD_some]
theorem encs_len : ∀ l : List Int, (encs l).length ≤ 10 * l.length
  | [] => by simp [encs]
  | x :: l => by
    have h1 := encs_len l
    have h2 := enc_len (Cd.num x)
    have : encs (x :: l) = Cd.enc (Cd.num x) ++ encs l := by simp [encs]
    rw [this, List.length_append, List.length_cons]
    omega

set_option maxRecDepth 100000 in
set_option maxHeartbeats 1000000 in
theorem putInts_any (A : Option Addr) (c : Nat) (b : List Nat) (A1 : Option Addr) (c1 : Nat) (l : List Int) (w : World) (hb : Byts w w.heap.size A b) (hi : Ints w w.heap.size A1 l) (h64 : I64 l) (hbl : b.length ≤ 900000) (hl : l.length ≤ 1000) :
    Calls Try.prog 17 #[.slice A b.length c, .slice A1 l.length c1] w (JoinPost w (b ++ (Cd.enc (Cd.num l.length) ++ encs l))) := by
  have he := enc_len (Cd.num l.length)
  obtain ⟨L0, hL0⟩ : ∃ L, L = Cd.enc (Cd.num l.length) := ⟨_, rfl⟩
  have hee := fun w0 => encoded_any (l.length : Int) (by omega) (by omega) w0
  rw [← hL0] at he hee ⊢
  have HEE := Lib.hid hee
  clear hee hL0
  go_enter Try.func17, Try.ntmps17
  go_wp2_with fail
  refine (HEE.out _).mono ?_
  rintro e w1 ⟨g, rfl, hg0, hg1, hc, hb1⟩
  have hT0 : Tail w1 w.heap.size (some ⟨g, 0, none⟩) L0.length L0 := .inr ⟨g, rfl, rfl, hg0, hg1, hc⟩
  have HT0 := Lib.hid hT0
  clear hc hT0
  go_wp2_with fail
  go_loopw [5, 13] (fun v i wr => ∃ (k : Nat) (A' : Option Addr) (cap' : Nat) (T : List Nat), k ≤ l.length ∧ i = .int .i64 k ∧ v = .slice A' T.length cap' ∧ T = L0 ++ encs (l.take k) ∧ Tail wr w.heap.size A' cap' T ∧ Below w.heap.size w wr)
    (fun _ i _ => l.length - (intOf i).toNat)
  case atStart => exact ⟨0, some ⟨g, 0, none⟩, L0.length, L0, Nat.zero_le _, rfl, rfl, by simp [encs], HT0.out, hb1⟩
  case round =>
    clear HT0 hb1
    obtain ⟨k, A', cap', T, hk, rfl, rfl, hTT, hT, hbel⟩ := hrel
    have hTl : T.length ≤ 10 + 10 * l.length := by
      rw [hTT, List.length_append]
      have h1 := encs_len (l.take k)
      have h2 : (l.take k).length ≤ l.length := by simp; omega
      omega
    have HTT := Lib.hid hTT
    have HT := Lib.hid hT
    clear hTT hT
    by_cases hlt : k < l.length
    · obtain ⟨bb, off, rfl, hbb, hcc⟩ := hi (by omega)
      have hcell := (hbel.cell (p := ⟨bb, off + k, none⟩) hbb).trans (hcc k hlt)
      have hx64 := h64.getD k
      have hsn := encs_snoc l k hlt
      obtain ⟨x, hx⟩ : ∃ x, x = l.getD k 0 := ⟨_, rfl⟩
      rw [← hx] at hcell hx64 hsn
      have hel := enc_len (Cd.num x)
      have hep := enc_pos (Cd.num x)
      have hen := fun w0 => encoded_any x hx64.1 hx64.2 w0
      obtain ⟨E, hE⟩ : ∃ E, E = Cd.enc (Cd.num x) := ⟨_, rfl⟩
      rw [← hE] at hsn hel hep hen
      have HSN := Lib.hid (show L0 ++ encs (l.take (k + 1)) = T ++ E by rw [hsn, HTT.out, List.append_assoc])
      have HEN := Lib.hid hen
      clear hcc hx hsn hE hen
      go_wp2_with fail
      refine (HEN.out _).mono ?_
      rintro e w2 ⟨g2, rfl, hg20, hg21, hc2, hb2⟩
      have HT2 := Lib.hid (Tail.below HT.out hb2)
      have HC2 := Lib.hid hc2
      have hbel2 := hbel.trans (hb2.mono hbel.size)
      clear hc2 HT hcell
      go_wp2_with (at_builtin; refine wpList_append_tail rfl (.tmp 17) (.tmp 19) rfl w.heap.size A' cap' T rfl HT2.out g2 E rfl HC2.out hep (by omega) hbel2.size ?_; rw [← HSN.out]; intro A3 cap3 w3 hy3 hb3)
      go_roundw
      case rel => exact ⟨k + 1, A3, cap3, _, by omega, by go_num, by rw [List.length_append], rfl, .inl hy3, hbel2.trans hb3⟩
      case measure => simp [intOf]; omega
    · obtain rfl : k = l.length := by omega
      have hTe : T = L0 ++ encs l := by rw [HTT.out, List.take_length]
      have HTE := Lib.hid hTe
      clear hTe
      go_wp2_with fail
      refine (joined_any A A' c cap' b T wr ((hb.below hbel).more hbel.size) (Tail.byts HT.out) (by omega)).mono ?_
      rintro e w3 ⟨g2, rfl, ho2, hb3⟩
      go_wp2_with fail
      go_ret
      show JoinPost w (b ++ (L0 ++ encs l)) _ _
      rw [← HTE.out]
      exact ⟨g2, by rw [List.length_append]; rfl, ho2.mono hbel.size, hbel.trans (hb3.mono hbel.size)⟩
end Go.Proofs.Ytelanbiedfldgaa
