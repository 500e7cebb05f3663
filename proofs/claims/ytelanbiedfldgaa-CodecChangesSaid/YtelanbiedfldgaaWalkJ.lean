/- Bytes turned to a string; the walks of Text of the program and of the reference. -/
import Derived.Test.YtelanbiedfldgaaWalkI
namespace Go.Proofs.Ytelanbiedfldgaa
open Go.RowKit

def strOf (l : List Nat) : ByteArray := l.foldl (fun r n => r.push (UInt8.ofNat n)) ByteArray.empty
theorem run_conv {w : World} {B : Nat} {A : Option Addr} {c : Nat} {l : List Nat} (hb : Byts w B A l) (hA : A = none → l = []) : (convert 22 9 (.slice A l.length c)).run Try.prog w = .ok (.string (strOf l)) w := by
  rw [run_convert_bytes_string w 22 9 5 A l.length c Try.underlying22 Try.underlying5 Try.underlying9]
  cases A with
  | none => rw [hA rfl]; rfl
  | some a =>
    have hload : (loadCells a l.length).run Try.prog w = .ok ((l.map Int.ofNat).map (Value.int .u8)).toArray w := by
      have e1 : (l.map Int.ofNat).map (Value.int .u8) = bcells l := by simp [bcells, Function.comp_def]
      rw [e1, ← bcells_len l]
      refine run_loadCells_list w a (bcells l) (fun j v hj => ?_)
      have hjl : j < l.length := by
        rcases Nat.lt_or_ge j l.length with h | h
        · exact h
        · rw [List.getElem?_eq_none (by rw [bcells_len]; exact h)] at hj; cases hj
      obtain ⟨b, off, e, _, hc⟩ := hb.cells (by omega)
      cases e
      rw [Addr.add_lit]
      exact hc j v hj
    rw [run_bytesToString w a l.length c (l.map Int.ofNat) hload]
    congr 2
    unfold strOf
    rw [List.foldl_map]
    rfl
theorem wpList_conv {w : World} {ops : Array Oper} {rest : List Oper} {o : Oper} {a : Act} {Q : Exit → Act → World → Prop} (hw : Region.wanted o (yielded ops a.tmps) = true) (x : Operand) (ho : o.op = .convert 22 9 x)
    (A : Option Addr) (n c : Nat) (l : List Nat) (hn : l.length = n) (hx : a.eval x = .slice A n c) (hb : Byts w w.heap.size A l) (hA : A = none → l = [])
    (h : wpList Try.prog ops Q rest (a.put o.dst (.string (strOf l))) w) : wpList Try.prog ops Q (o :: rest) a w :=
  wpList_step fun K hK => by
    rw [if_pos hw]
    subst hn
    have hr := run_conv (c := c) hb hA
    unfold Oper.wp execOp
    simp only [ho, hx, Sem.run_bind, hr, Result.andThen_ok, Sem.run_pure]
    exact hK _ _ h
theorem Byts.drop {w : World} {B b off : Nat} {l : List Nat} (h : Byts w B (some ⟨b, off, none⟩) l) (k : Nat) : Byts w B (some ⟨b, off + k, none⟩) (l.drop k) := fun hl => by
  rw [List.length_drop] at hl
  obtain ⟨b', off', e, hb, hc⟩ := h (by omega)
  cases e
  refine ⟨b, off + k, rfl, hb, fun j hj => ?_⟩
  rw [List.length_drop] at hj
  rw [Nat.add_assoc, hc (k + j) (by omega)]
  simp [List.getD_eq_getElem?_getD]
theorem Byts.take {w : World} {B : Nat} {A : Option Addr} {l : List Nat} (h : Byts w B A l) (k : Nat) : Byts w B A (l.take k) := fun hl => by
  rw [List.length_take] at hl
  obtain ⟨b', off', e, hb, hc⟩ := h (by omega)
  refine ⟨b', off', e, hb, fun j hj => ?_⟩
  rw [List.length_take] at hj
  rw [hc j (by omega)]
  simp [List.getD_eq_getElem?_getD, show j < k by omega]
theorem byts_none {w : World} {B : Nat} {A : Option Addr} {l : List Nat} (h : l.length = 0) : Byts w B A l := fun hl => by omega
theorem Byts.cut {w : World} {B b off cap : Nat} {l : List Nat} (h : Byts w B (some ⟨b, off, none⟩) l) (hc : l.length ≤ cap) (k : Nat) : Byts w B (if cap = k then some ⟨b, off, none⟩ else some ⟨b, off + k, none⟩) (l.drop k) := by
  split
  · exact byts_none (by rw [List.length_drop]; omega)
  · exact h.drop k
def TextPost (w : World) (r : List Nat × Int × Int) (e : Ending) (w' : World) : Prop := e = .returned (.tuple #[.string (strOf r.1), .int .i64 r.2.1, .int .i64 r.2.2]) ∧ Below w.heap.size w w'
theorem strOf_nil : strOf [] = ⟨#[]⟩ := rfl
set_option maxRecDepth 100000 in
set_option maxHeartbeats 1000000 in
theorem text_any (A : Option Addr) (cap : Nat) (bs : List Nat) (limit : Int) (w : World) (hb : Byts w w.heap.size A bs) (hB : Cd.Byt bs) (hl : bs.length ≤ 1000000) (hcap : bs.length ≤ cap) :
    Calls Try.prog 14 #[.slice A bs.length cap, .int .i64 limit] w (TextPost w (Cd.textL bs limit)) := by
  have hc := fun w0 h => length_any A cap bs limit w0 h hB (by omega)
  have hdef : Cd.textL bs limit = if (Cd.lenL bs limit).2.2 ≠ 0 then ([], 0, (Cd.lenL bs limit).2.2) else if (bs.length : Int) - (Cd.lenL bs limit).2.1 < (Cd.lenL bs limit).1 then ([], 0, 7) else ((bs.drop (Cd.lenL bs limit).2.1.toNat).take (Cd.lenL bs limit).1.toNat, (Cd.lenL bs limit).2.1 + (Cd.lenL bs limit).1, 0) := rfl
  unfold IntPost at hc
  by_cases h1 : (Cd.lenL bs limit).2.2 = 0
  · obtain ⟨n, j, h2, h3, h4, h5, h6⟩ := Cd.lenL_ok h1
    rw [h2] at hdef hc
    simp only [ne_eq, not_true, if_false, Int.toNat_natCast] at hdef
    have HC := Lib.hid hc
    have HD := Lib.hid hdef
    clear hc hdef h1 h2 h5 h6
    obtain ⟨b, off, rfl, hbl, hcell⟩ := hb (by omega)
    clear hcell
    by_cases hs : (bs.length : Int) - (j : Int) < (n : Int)
    · have HV := Lib.hid (show Cd.textL bs limit = ([], 0, 7) by rw [HD.out, if_pos hs])
      have hs2 : bs.length - j < n := by omega
      have hs3 : ((bs.length : Int) - (j : Int)) < (n : Int) := hs
      have hs4 : IntKind.i64.wrap ((bs.length : Int) - (j : Int)) = (bs.length : Int) - (j : Int) := IntWalk.i64_in _ ⟨by omega, by omega⟩
      go_enter Try.func14, Try.ntmps14
      go_wp2_with fail
      refine (HC.out _ hb).mono ?_
      rintro e w1 ⟨rfl, hb1⟩
      go_wp2_with fail
      all_goals
        go_ret3
        exact ⟨by rw [HV.out]; rfl, hb1⟩
    · have HV := Lib.hid (show Cd.textL bs limit = ((bs.drop j).take n, (j : Int) + (n : Int), 0) by rw [HD.out, if_neg hs])
      have hs2 : n ≤ bs.length - j := by omega
      have hs3 : ¬ ((bs.length : Int) - (j : Int)) < (n : Int) := hs
      have hs4 : IntKind.i64.wrap ((bs.length : Int) - (j : Int)) = (bs.length : Int) - (j : Int) := IntWalk.i64_in _ ⟨by omega, by omega⟩
      have hs5 : IntKind.i64.wrap ((j : Int) + (n : Int)) = (j : Int) + (n : Int) := IntWalk.i64_in _ ⟨by omega, by omega⟩
      have hs6 : j + n ≤ bs.length := by omega
      have hln : ((bs.drop j).take n).length = n := by rw [List.length_take, List.length_drop]; omega
      have HL := Lib.hid hln
      clear hln
      go_enter Try.func14, Try.ntmps14
      go_wp2_with fail
      refine (HC.out _ hb).mono ?_
      rintro e w1 ⟨rfl, hb1⟩
      have HY := Lib.hid ((hb.below hb1).more hb1.size)
      go_wp2_with ((with_reducible refine at_op (d := some 32) (op := .convert 22 9 (.tmp 31)) ?_); refine wpList_conv rfl (.tmp 31) rfl _ _ _ ((bs.drop j).take n) (by have := HL.out; omega) rfl (by first | exact (HY.out.cut hcap j).take n | exact (HY.out.drop j).take n | exact byts_none (by have := HL.out; omega)) (by intro e; first | (cases e; done) | (split at e <;> cases e)) ?_)
      all_goals
        go_wp2_with fail
        go_ret3
        exact ⟨by rw [HV.out]; rfl, hb1⟩
  · rw [if_pos h1] at hdef
    obtain ⟨v, hv⟩ : ∃ v, v = (Cd.lenL bs limit).1 := ⟨_, rfl⟩
    obtain ⟨s, hs⟩ : ∃ s, s = (Cd.lenL bs limit).2.1 := ⟨_, rfl⟩
    obtain ⟨e, he⟩ : ∃ e, e = (Cd.lenL bs limit).2.2 := ⟨_, rfl⟩
    rw [← he] at hdef h1
    rw [← hv, ← hs, ← he] at hc
    have HC := Lib.hid hc
    have h1' : (e != 0) = true := by simp [h1]
    rw [hdef]
    clear hc hv hs he hdef
    go_enter Try.func14, Try.ntmps14
    go_wp2_with fail
    refine (HC.out _ hb).mono ?_
    rintro e w1 ⟨rfl, hb1⟩
    go_wp2_with fail
    go_ret3
    exact ⟨rfl, hb1⟩
set_option maxRecDepth 100000 in
set_option maxHeartbeats 1000000 in
theorem rtext_any (A : Option Addr) (cap : Nat) (bs : List Nat) (limit : Int) (w : World) (hb : Byts w w.heap.size A bs) (hB : Cd.Byt bs) (hl : bs.length ≤ 1000000) (hcap : bs.length ≤ cap) :
    Calls Try.prog 19 #[.slice A bs.length cap, .int .i64 limit] w (TextPost w (Cd.textL bs limit)) := by
  have hc := fun w0 h => many_any A cap bs limit w0 h hB (by omega)
  have hdef : Cd.textL bs limit = if (Cd.lenL bs limit).2.2 ≠ 0 then ([], 0, (Cd.lenL bs limit).2.2) else if (bs.length : Int) - (Cd.lenL bs limit).2.1 < (Cd.lenL bs limit).1 then ([], 0, 7) else ((bs.drop (Cd.lenL bs limit).2.1.toNat).take (Cd.lenL bs limit).1.toNat, (Cd.lenL bs limit).2.1 + (Cd.lenL bs limit).1, 0) := rfl
  unfold IntPost at hc
  by_cases h1 : (Cd.lenL bs limit).2.2 = 0
  · obtain ⟨n, j, h2, h3, h4, h5, h6⟩ := Cd.lenL_ok h1
    rw [h2] at hdef hc
    simp only [ne_eq, not_true, if_false, Int.toNat_natCast] at hdef
    have HC := Lib.hid hc
    have HD := Lib.hid hdef
    clear hc hdef h1 h2 h5 h6
    obtain ⟨b, off, rfl, hbl, hcell⟩ := hb (by omega)
    clear hcell
    by_cases hs : (bs.length : Int) - (j : Int) < (n : Int)
    · have HV := Lib.hid (show Cd.textL bs limit = ([], 0, 7) by rw [HD.out, if_pos hs])
      have hs2 : bs.length - j < n := by omega
      have hs3 : ((bs.length : Int) - (j : Int)) < (n : Int) := hs
      have hs4 : IntKind.i64.wrap ((bs.length : Int) - (j : Int)) = (bs.length : Int) - (j : Int) := IntWalk.i64_in _ ⟨by omega, by omega⟩
      go_enter Try.func19, Try.ntmps19
      go_wp2_with fail
      refine (HC.out _ hb).mono ?_
      rintro e w1 ⟨rfl, hb1⟩
      go_wp2_with fail
      all_goals
        go_ret3
        exact ⟨by rw [HV.out]; rfl, hb1⟩
    · have HV := Lib.hid (show Cd.textL bs limit = ((bs.drop j).take n, (j : Int) + (n : Int), 0) by rw [HD.out, if_neg hs])
      have hs2 : n ≤ bs.length - j := by omega
      have hs3 : ¬ ((bs.length : Int) - (j : Int)) < (n : Int) := hs
      have hs4 : IntKind.i64.wrap ((bs.length : Int) - (j : Int)) = (bs.length : Int) - (j : Int) := IntWalk.i64_in _ ⟨by omega, by omega⟩
      have hs5 : IntKind.i64.wrap ((j : Int) + (n : Int)) = (j : Int) + (n : Int) := IntWalk.i64_in _ ⟨by omega, by omega⟩
      have hs6 : j + n ≤ bs.length := by omega
      have hln : ((bs.drop j).take n).length = n := by rw [List.length_take, List.length_drop]; omega
      have HL := Lib.hid hln
      clear hln
      go_enter Try.func19, Try.ntmps19
      go_wp2_with fail
      refine (HC.out _ hb).mono ?_
      rintro e w1 ⟨rfl, hb1⟩
      have HY := Lib.hid ((hb.below hb1).more hb1.size)
      go_wp2_with ((with_reducible refine at_op (d := some 32) (op := .convert 22 9 (.tmp 31)) ?_); refine wpList_conv rfl (.tmp 31) rfl _ _ _ ((bs.drop j).take n) (by have := HL.out; omega) rfl (by first | exact (HY.out.cut hcap j).take n | exact (HY.out.drop j).take n | exact byts_none (by have := HL.out; omega)) (by intro e; first | (cases e; done) | (split at e <;> cases e)) ?_)
      all_goals
        go_wp2_with fail
        go_ret3
        exact ⟨by rw [HV.out]; rfl, hb1⟩
  · rw [if_pos h1] at hdef
    obtain ⟨v, hv⟩ : ∃ v, v = (Cd.lenL bs limit).1 := ⟨_, rfl⟩
    obtain ⟨s, hs⟩ : ∃ s, s = (Cd.lenL bs limit).2.1 := ⟨_, rfl⟩
    obtain ⟨e, he⟩ : ∃ e, e = (Cd.lenL bs limit).2.2 := ⟨_, rfl⟩
    rw [← he] at hdef h1
    rw [← hv, ← hs, ← he] at hc
    have HC := Lib.hid hc
    have h1' : (e != 0) = true := by simp [h1]
    rw [hdef]
    clear hc hv hs he hdef
    go_enter Try.func19, Try.ntmps19
    go_wp2_with fail
    refine (HC.out _ hb).mono ?_
    rintro e w1 ⟨rfl, hb1⟩
    go_wp2_with fail
    go_ret3
    exact ⟨rfl, hb1⟩
end Go.Proofs.Ytelanbiedfldgaa
