/- The walk of the statement CodecSums. -/
import Derived.Test.YtelanbiedfldgaaWalkL
namespace Go.Proofs.Ytelanbiedfldgaa
open Go.RowKit

theorem strOf_data_go : ∀ (l : List Nat) (r : ByteArray), (l.foldl (fun r n => r.push (UInt8.ofNat n)) r).data.toList = r.data.toList ++ l.map UInt8.ofNat
  | [], r => by simp
  | c :: l, r => by
    rw [List.foldl_cons, strOf_data_go l]
    simp [ByteArray.push]
theorem strOf_data (l : List Nat) : (strOf l).data.toList = l.map UInt8.ofNat := by
  rw [strOf, strOf_data_go]; rfl
theorem sb_strOf {l : List Nat} (h : Cd.Byt l) : sb (strOf l) = l := by
  unfold sb
  rw [strOf_data, List.map_map]
  conv => rhs; rw [← List.map_id l]
  refine List.map_congr_left fun x hx => ?_
  have := h x hx
  simp only [Function.comp_apply, id]
  rw [UInt8.toNat_ofNat']
  omega
theorem strOf_size {l : List Nat} (h : Cd.Byt l) : (strOf l).size = l.length := by rw [← sb_len, sb_strOf h]
/-- '[]byte(s)'. -/
theorem wpList_tobytes {w : World} {ops : Array Oper} {rest : List Oper} {o : Oper} {a : Act} {Q : Exit → Act → World → Prop} (hw : Region.wanted o (yielded ops a.tmps) = true) (x : Operand) (ho : o.op = .convert 9 22 x)
    (s : ByteArray) (hx : a.eval x = .string s)
    (h : ∀ cap w', Byts w' w'.heap.size (some ⟨w.heap.size, 0, none⟩) (sb s) → s.size ≤ cap → Below w.heap.size w w' → wpList Try.prog ops Q rest (a.put o.dst (.slice (some ⟨w.heap.size, 0, none⟩) s.size cap)) w') : wpList Try.prog ops Q (o :: rest) a w :=
  wpList_step fun K hK => by
    rw [if_pos hw]
    have hr := Lib.run_convert_string_bytes (P := Try.prog) w 9 22 5 s Try.underlying9 Try.underlying22 Try.underlying5
    unfold Oper.wp execOp
    simp only [ho, hx, Sem.run_bind, hr, Result.andThen_ok, Sem.run_pure]
    refine hK _ _ (h _ _ (fun hl => ?_) (grownCap_ge w s.size 0 5) ?_)
    · refine ⟨w.heap.size, 0, rfl, by rw [Lib.bytesWorld_size]; omega, fun k hk => ?_⟩
      rw [sb_len] at hk
      rw [Nat.zero_add, Lib.bytesWorld_cell w 5 s k hk]
      congr 2
      unfold sb
      simp [List.getD_eq_getElem?_getD]
      cases s.data[k]? <;> rfl
    · exact ⟨rfl, rfl, rfl, by rw [Lib.bytesWorld_size]; omega, fun k hk => Lib.bytesWorld_at_old w 5 s k hk⟩

set_option maxRecDepth 100000 in
set_option maxHeartbeats 1000000 in
theorem sums_any (A : Option Addr) (cap : Nat) (l : List Nat) (w : World) (hb : Byts w w.heap.size A l) (hB : Cd.Byt l) (hA : A = none → l = []) :
    Calls Try.prog 6 #[.slice A l.length cap] w fun e w' => e = .returned (.bool true) ∧ Below w.heap.size w w' := by
  by_cases h6 : 600 < l.length
  · go_enter Try.func6, Try.ntmps6
    go_wp2_with fail
    refine (awake_any _).mono ?_
    rintro e w1 ⟨rfl, hb1⟩
    go_wp2_with fail
    go_ret
    exact ⟨rfl, hb1⟩
  · have hss := strOf_size hB
    have hsb := sb_strOf hB
    obtain ⟨s, hs⟩ : ∃ s, s = strOf l := ⟨_, rfl⟩
    rw [← hs] at hss hsb
    have HS := Lib.hid hs
    have HSS := Lib.hid hss
    have HSB := Lib.hid hsb
    clear hss hsb hs
    have hcv : ∀ W, Byts W W.heap.size A l → (convert 22 9 (.slice A l.length cap)).run Try.prog W = .ok (.string s) W := fun W h => by rw [HS.out]; exact run_conv h hA
    have HCV := Lib.hid hcv
    have hcv0 := hcv w hb
    clear hcv
    obtain ⟨N, hN⟩ : ∃ N, N = Cd.sum l := ⟨_, rfl⟩
    have hsum := fun W h => sum_at A cap l.length l N W h hB rfl (by omega) hN.symm
    have HSUM := Lib.hid hsum
    have HN := Lib.hid hN
    clear hN hsum
    go_enter Try.func6, Try.ntmps6
    go_wp2_with fail
    refine (HSUM.out _ hb).mono ?_
    rintro e w1 ⟨rfl, hb1⟩
    go_wp2_with ((with_reducible refine at_op (d := some 13) (op := .convert 9 22 (.tmp 12)) ?_); refine wpList_tobytes rfl (.tmp 12) rfl s rfl ?_; intro c2 w2 hy2 hc2 hb2)
    rw [HSB.out] at hy2
    have hN2 : Cd.sum l = N := HN.out.symm
    have hr : Calls Try.prog 23 #[.slice (some ⟨w1.heap.size, 0, none⟩) s.size c2] w2 (SumPost w2 N) := by
      rw [← hN2, HSS.out]
      exact rsum_any _ c2 l w2 hy2 hB (by omega)
    refine hr.mono ?_
    rintro e w3 ⟨rfl, hb3⟩
    have hbb : Below w.heap.size w w3 := hb1.trans ((hb2.mono hb1.size).trans (hb3.mono (Nat.le_trans hb1.size hb2.size)))
    have hcv3 := HCV.out w3 ((hb.below hbb).more hbb.size)
    clear hr hN2 hy2 hcv0
    go_wp2_with fail
    refine (awake_any _).mono ?_
    rintro e w4 ⟨rfl, hb4⟩
    go_wp2_with fail
    go_ret
    exact ⟨rfl, hbb.trans (hb4.mono hbb.size)⟩
end Go.Proofs.Ytelanbiedfldgaa
