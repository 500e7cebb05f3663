/- The walks of PutInt, PutText and PutInts. -/
import Derived.Test.YtelanbiedfldgaaWalkF
import Derived.Lib.AppendStr
import Derived.ArgAppend
namespace Go.Proofs.Ytelanbiedfldgaa
open Go.RowKit

theorem enc_len_le : ∀ (f u : Nat), (Cd.encF f u).length ≤ f + 1
  | 0, u => by simp [Cd.encF]
  | f + 1, u => by
    rw [Cd.encF]
    split
    · simp
    · have := enc_len_le f (u / 128)
      simp; omega
theorem enc_len (u : Nat) : (Cd.enc u).length ≤ 10 := enc_len_le 9 u
theorem enc_pos (u : Nat) : 0 < (Cd.enc u).length := by
  unfold Cd.enc
  rw [Cd.encF]
  split <;> simp
theorem EncPost.byts {w' : World} {L : List Nat} {g : Nat} (hg : g < w'.heap.size) (hc : ∀ k, k < L.length → w'.cell? ⟨g, k, none⟩ = some (.int .u8 (L.getD k 0 : Nat))) : Byts w' w'.heap.size (some ⟨g, 0, none⟩) L := fun _ =>
  ⟨g, 0, rfl, hg, fun k hk => by rw [Nat.zero_add]; exact hc k hk⟩
theorem cells_of {w : World} {g : Nat} {L : List Nat} (hc : ∀ k, k < L.length → w.cell? ⟨g, k, none⟩ = some (.int .u8 (L.getD k 0 : Nat))) : ∀ j v, (bcells L)[j]? = some v → w.cell? ((⟨g, 0, none⟩ : Addr).add j) = some v := fun j v hj => by
  have hjl : j < L.length := by
    rcases Nat.lt_or_ge j L.length with h | h
    · exact h
    · rw [List.getElem?_eq_none (by rw [bcells_len]; exact h)] at hj; cases hj
  rw [bcells_get hjl] at hj
  cases hj
  rw [Addr.add_lit, Nat.zero_add]
  exact hc j hjl

set_option maxHeartbeats 400000 in
theorem putInt_any (A : Option Addr) (c : Nat) (l : List Nat) (n : Int) (h1 : -9223372036854775808 ≤ n) (h2 : n ≤ 9223372036854775807) (w : World) (hb : Byts w w.heap.size A l) (hl : l.length ≤ 900000) :
    Calls Try.prog 13 #[.slice A l.length c, .int .i64 n] w (JoinPost w (l ++ Cd.enc (Cd.num n))) := by
  have he := enc_len (Cd.num n)
  go_enter Try.func13, Try.ntmps13
  go_wp2_with fail
  refine (encoded_any n h1 h2 _).mono ?_
  rintro e w1 ⟨g, rfl, hg0, hg1, hc, hb1⟩
  go_wp2_with fail
  refine (joined_any A (some ⟨g, 0, none⟩) c _ l (Cd.enc (Cd.num n)) w1 ((hb.below hb1).more hb1.size) (EncPost.byts hg1 hc) (by omega)).mono ?_
  rintro e w2 ⟨g2, rfl, ho2, hb2⟩
  go_wp2_with fail
  go_ret
  exact ⟨g2, by rw [List.length_append]; rfl, ho2.mono hb1.size, hb1.trans (hb2.mono hb1.size)⟩

def sb (s : ByteArray) : List Nat := s.data.toList.map (·.toNat)
theorem sb_cells (s : ByteArray) : Lib.strCells s = bcells (sb s) := by simp [Lib.strCells, bcells, sb, Function.comp_def]
theorem sb_len (s : ByteArray) : (sb s).length = s.size := by
  rw [sb, List.length_map, Array.length_toList]; rfl
theorem sb_byt (s : ByteArray) : Cd.Byt (sb s) := fun x hx => by
  simp only [sb, List.mem_map] at hx
  obtain ⟨b, _, rfl⟩ := hx
  exact b.toNat_lt

/-- 'append(b, s...)' onto a full slice, wherever it lies: what is behind it can be read. -/
theorem wpList_append_full_string {w : World} {ops : Array Oper} {rest : List Oper} {o : Oper} {a : Act} {Q : Exit → Act → World → Prop} (hgd : o.guard = none) (sl x : Operand)
    (ho : o.op = .call { callee := .builtin .append, args := #[sl, x], argTypes := #[22, 9] })
    (g n : Nat) (L : List Nat) (hn : L.length = n) (hs : a.eval sl = .slice (some ⟨g, 0, none⟩) n n) (hg : g < w.heap.size) (hc : ∀ k, k < L.length → w.cell? ⟨g, k, none⟩ = some (.int .u8 (L.getD k 0 : Nat)))
    (s : ByteArray) (hx : a.eval x = .string s) (hl : n + s.size ≤ 1000000)
    (h : ∀ A cap w', Byts w' w'.heap.size A (L ++ sb s) → Below w.heap.size w w' → wpList Try.prog ops Q rest (a.put o.dst (.slice A (L ++ sb s).length cap)) w') : wpList Try.prog ops Q (o :: rest) a w := by
  refine wpList_plain hgd fun K hK => ?_
  obtain ⟨i, hi, hz, hsz, hby⟩ := info_parts Try.size5
  by_cases h0 : s.size = 0
  · have hsb : sb s = [] := List.eq_nil_of_length_eq_zero (by rw [sb_len]; exact h0)
    have hcs : Lib.strCells s = [] := List.eq_nil_of_length_eq_zero (by rw [Lib.strCells_length]; exact h0)
    have hf := Lib.run_firstCells_string (P := Try.prog) w 1 s
    rw [hcs, h0] at hf
    have hr : (Builtin.append_ #[22, 9] o.type #[.slice (some ⟨g, 0, none⟩) n n, .string s]).run Try.prog w = .ok (.slice (some ⟨g, 0, none⟩) n n) w := by
      simp [Builtin.append_, run_underlying Try.underlying22, run_underlying Try.underlying9, sizeOf, typeInfo, hi, hsz, Builtin.lenOf, h0, hf, storeCells]
    unfold Oper.wp execOp
    simp only [ho, resolve, invoke, builtin, Sem.run_bind, Sem.run_pure, Result.andThen_ok, List.map_toArray, List.map_cons, List.map_nil, hs, hx, hr]
    have := h (some ⟨g, 0, none⟩) n w (by rw [hsb, List.append_nil]; exact EncPost.byts hg hc) (Below.refl _ _)
    rw [hsb, List.append_nil, hn] at this
    exact hK _ _ this
  · have hr := Lib.run_append_grow_string (P := Try.prog) w 22 9 o.type 5 i (.int .u8 0) Try.underlying22 Try.underlying9 hi hz ⟨g, 0, none⟩ n n (bcells L) (by rw [hsz, bcells_len, hn, Nat.mul_one]) (cells_of hc) s (by omega) (by omega) (by rw [hby]; exact growslice_fits (by omega) (by omega))
    unfold Oper.wp execOp
    simp only [ho, resolve, invoke, builtin, Sem.run_bind, Sem.run_pure, Result.andThen_ok, List.map_toArray, List.map_cons, List.map_nil, hs, hx, hr]
    have hlen : (L ++ sb s).length = n + s.size := by rw [List.length_append, sb_len, hn]
    rw [← hlen]
    refine hK _ _ (h _ _ _ ?_ ((Below.refl _ _).drew.alloc (Nat.le_refl _) _))
    intro _
    refine ⟨w.heap.size, 0, rfl, by simp, fun k hk => ?_⟩
    have e1 : (w.drew.alloc (.cells ((bcells L).toArray ++ (Lib.strCells s).toArray ++ Builtin.zeroCells (Value.int .u8 0).cells (grownCap w (n + s.size) n 5 - (n + s.size))) 5)).cell? ⟨w.heap.size, 0 + k, none⟩ = ((bcells L).toArray ++ (Lib.strCells s).toArray ++ Builtin.zeroCells (Value.int .u8 0).cells (grownCap w (n + s.size) n 5 - (n + s.size)))[0 + k]? :=
      World.cell?_alloc_at _ 5 w.heap.size (0 + k) rfl
    rw [← hlen] at e1
    refine e1.trans ?_
    rw [Nat.zero_add, sb_cells]
    have e2 : (bcells L).toArray ++ (bcells (sb s)).toArray = (bcells (L ++ sb s)).toArray := by simp [bcells]
    rw [e2, Array.getElem?_append_left (by simpa [bcells_len] using hk)]
    simp only [List.getElem?_toArray]
    exact bcells_get hk

set_option maxHeartbeats 400000 in
theorem putText_any (A : Option Addr) (c : Nat) (l : List Nat) (s : ByteArray) (w : World) (hb : Byts w w.heap.size A l) (hl : l.length + s.size ≤ 900000) :
    Calls Try.prog 15 #[.slice A l.length c, .string s] w (JoinPost w (l ++ (Cd.enc (Cd.num s.size) ++ sb s))) := by
  have hne : Cd.num (s.size : Int) = Cd.num s.size := rfl
  have hee := fun w0 => encoded_any s.size (by omega) (by omega) w0
  have he := enc_len (Cd.num s.size)
  obtain ⟨L, hL⟩ : ∃ L, L = Cd.enc (Cd.num s.size) := ⟨_, rfl⟩
  rw [← hL] at hee he ⊢
  have HEE := Lib.hid hee
  clear hee hne hL
  obtain ⟨M, hM⟩ : ∃ M, M = L ++ sb s := ⟨_, rfl⟩
  have hMl : M.length = L.length + s.size := by rw [hM, List.length_append, sb_len]
  rw [← hM]
  have HM := Lib.hid hM
  have HML := Lib.hid hMl
  clear hM hMl
  go_enter Try.func15, Try.ntmps15
  go_wp2_with fail
  refine (HEE.out _).mono ?_
  rintro e w1 ⟨g, rfl, hg0, hg1, hc, hb1⟩
  have HC := Lib.hid hc
  clear hc
  go_wp2_with (at_builtin; refine wpList_append_full_string rfl (.tmp 8) (.tmp 9) rfl g L.length L rfl rfl hg1 HC.out s rfl (by omega) ?_; rw [← HM.out]; intro A2 cap2 w2 hy2 hb2)
  refine (joined_any A A2 c _ l M w2 (((hb.below hb1).below (hb2.mono hb1.size)).more (Nat.le_trans hb1.size hb2.size)) hy2 (by have := HML.out; omega)).mono ?_
  rintro e w3 ⟨g2, rfl, ho2, hb3⟩
  have hbb := hb1.trans (hb2.mono hb1.size)
  go_wp2_with fail
  go_ret
  exact ⟨g2, by rw [List.length_append]; rfl, ho2.mono hbb.size, hbb.trans (hb3.mono hbb.size)⟩
end Go.Proofs.Ytelanbiedfldgaa
