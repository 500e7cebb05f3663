/- The walks of (*paths).from and Longest of the program. -/
import Derived.Test.YtnbaofkgakgpgaaWalkE
namespace Go.Proofs.Ytnbaofkgakgpgaa
open Go.RowKit

theorem gtrans {a b c : World} {row : Option Nat} (h : a.grownBy b row) (k : b.grownBy c row) : a.grownBy c row :=
  ⟨k.os.trans h.os, k.tape.trans h.tape, k.output.trans h.output, Nat.le_trans h.size k.size, fun i hi hne => (k.block i (Nat.lt_of_lt_of_le hi h.size) hne).trans (h.block i hi hne)⟩
theorem grown_any {a b : World} (h : Below a.heap.size a b) (row : Option Nat) : a.grownBy b row := ⟨h.os, h.tape, h.output, h.size, fun i hi _ => h.block i hi⟩
theorem below_of_grown {a b : World} {g B : Nat} (h : a.grownBy b (some g)) (hB : B ≤ a.heap.size) (hg : B ≤ g) : Below B a b :=
  (Below.refl _ _).grown h hB (fun k hk => by cases hk; exact hg)
theorem ret_int {a b : Int} (h : a = b) : Ending.returned (.int .i64 a) = .returned (.int .i64 b) := by rw [h]

abbrev ints (M : List Nat) : List Int := M.map Int.ofNat
theorem ints_get {M : List Nat} {i : Nat} : (ints M).getD i 0 = (Fl.at0 M i : Int) := by
  unfold ints Fl.at0
  simp only [List.getD_eq_getElem?_getD, List.getElem?_map]
  cases M[i]? <;> rfl

/-- The memory of lengths, as the method sees it. -/
structure PathsAt (w : World) (Bc pb g : Nat) (s : ByteArray) (p q : Int) (A : Option Addr) (cap : Nat) (I : Fl.Rt) (M : List Nat) : Prop where
  code : CodeAt w Bc A I
  bg : Bc ≤ g
  bp : Bc ≤ pb
  ne : pb ≠ g
  blk : w.heap[pb]? = some (.cells #[.string s, .int .i64 p, .int .i64 q, .slice A I.length cap, .slice (some ⟨g, 0, none⟩) I.length I.length] 54 (0, 0))
  own : Own w Bc (some ⟨g, 0, none⟩) I.length (ints M)
  memo : Fl.Memo I M
section
variable {w w' : World} {Bc pb g : Nat} {s : ByteArray} {p q : Int} {A : Option Addr} {cap : Nat} {I : Fl.Rt} {M : List Nat}
theorem PathsAt.lt (h : PathsAt w Bc pb g s p q A cap I M) : pb < w.heap.size := (Array.getElem?_eq_some_iff.1 h.blk).1
theorem PathsAt.ltg (h : PathsAt w Bc pb g s p q A cap I M) : g < w.heap.size := (World.ownsRow.lt h.own g rfl).2
theorem PathsAt.below (h : PathsAt w Bc pb g s p q A cap I M) (hb : Below w.heap.size w w') : PathsAt w' Bc pb g s p q A cap I M :=
  ⟨h.code.below (hb.mono (Nat.le_of_lt (Nat.lt_of_le_of_lt h.bp h.lt))), h.bg, h.bp, h.ne, (hb.block pb h.lt).trans h.blk, h.own.below hb, h.memo⟩
theorem PathsAt.cells (h : PathsAt w Bc pb g s p q A cap I M) : w.cell? ⟨pb, 0, none⟩ = some (.string s) ∧ w.cell? ⟨pb, 1, none⟩ = some (.int .i64 p) ∧ w.cell? ⟨pb, 2, none⟩ = some (.int .i64 q) ∧
    w.cell? ⟨pb, 3, none⟩ = some (.slice A I.length cap) ∧ w.cell? ⟨pb, 4, none⟩ = some (.slice (some ⟨g, 0, none⟩) I.length I.length) := by
  refine ⟨?_, ?_, ?_, ?_, ?_⟩ <;> rw [cell_of_row _ _ _ _ _ _ h.blk] <;> rfl
theorem PathsAt.cell (h : PathsAt w Bc pb g s p q A cap I M) {i : Nat} (hi : i < I.length) : w.cell? ⟨g, i, none⟩ = some (.int .i64 (Fl.at0 M i : Int)) := by
  obtain ⟨g', e, _, _, hc⟩ := h.own.cell (by rw [List.length_map, h.memo.len]; omega)
  cases e
  rw [hc i (by rw [List.length_map, h.memo.len]; exact hi), ints_get]
theorem PathsAt.free (h : PathsAt w Bc pb g s p q A cap I M) (i : Nat) : w.frozen? ⟨g, i, none⟩ = false := World.ownsRow.frozenAt h.own i
theorem PathsAt.store (h : PathsAt w Bc pb g s p q A cap I M) {i : Nat} (hr : Fl.has (Fl.reachL I) i) (v : Int) (hv : v = (Fl.lenOf I i : Int)) :
    PathsAt (w.setCell ⟨g, i, none⟩ (.int .i64 v)) Bc pb g s p q A cap I (M.set i (Fl.lenOf I i)) ∧ w.grownBy (w.setCell ⟨g, i, none⟩ (.int .i64 v)) (some g) := by
  subst hv
  have hst := World.ownsRow.stored h.own i (.int .i64 (Fl.lenOf I i : Int))
  have hb := below_of_grown hst.2 (B := Bc) (Nat.le_of_lt (Nat.lt_of_le_of_lt h.bp h.lt)) h.bg
  refine ⟨⟨h.code.below hb, h.bg, h.bp, h.ne, (hst.2.block pb h.lt (by simpa using h.ne)).trans h.blk, ?_, h.memo.put hr⟩, hst.2⟩
  have e : ints (M.set i (Fl.lenOf I i)) = (ints M).set i (Fl.lenOf I i : Int) := by unfold ints; rw [List.map_set]; rfl
  unfold Own
  rw [e, List.length_set, List.map_set]
  exact hst.1
end

def FromPost (w : World) (Bc pb g : Nat) (s : ByteArray) (p q : Int) (A : Option Addr) (cap : Nat) (I : Fl.Rt) (i : Nat) (e : Ending) (w' : World) : Prop :=
  ∃ M', e = .returned (.int .i64 (Fl.lenOf I i : Int)) ∧ PathsAt w' Bc pb g s p q A cap I M' ∧ w.grownBy w' (some g)

set_option maxHeartbeats 1000000 in
theorem from_any (s : ByteArray) (p q : Int) (A : Option Addr) (cap : Nat) (I : Fl.Rt) (hn : I.length ≤ 4398046511104) (hcalm : Fl.spinsL I = []) (Bc pb g : Nat) (m : Nat) :
    ∀ (i : Nat) (M : List Nat) (w : World), Fl.lenOf I i ≤ m → Fl.has (Fl.reachL I) i → PathsAt w Bc pb g s p q A cap I M →
    Calls Try.prog 23 #[.pointer (some ⟨pb, 0, none⟩), .int .i64 i] w (FromPost w Bc pb g s p q A cap I i) := by
  have HC := Lib.hid hcalm
  clear hcalm
  induction m with
  | zero => intro i M w hm; have := Fl.lenOf_pos I i; omega
  | succ m ih =>
    intro i M w hm hr hP
    have hil : i < I.length := by have := Fl.has_lt hr; rwa [Fl.reachL_len] at this
    obtain ⟨c0, c1, c2, c3, c4⟩ := hP.cells
    have hci := hP.cell hil
    have hle := Fl.lenOf_le HC.out hr
    have hpos := Fl.lenOf_pos I i
    have IH := Lib.hid ih
    clear ih
    rcases hP.memo.ok i hil with h0 | ⟨_, hl⟩
    · rw [h0] at hci
      obtain ⟨bc, off, rfl, hbc, hcode⟩ := hP.code (by omega)
      obtain ⟨cs, h1, h2, h3, h4, h5⟩ := hcode i hil
      have H1 := Lib.hid h1
      clear h1 h2 h4 h0
      obtain ⟨pb', hpb⟩ : ∃ pb', pb' = Fl.pz (Fl.opOf I i) := ⟨_, rfl⟩
      go_enter Try.func23, Try.ntmps23
      go_wp2_with ((with_reducible refine at_op (d := some 30) (op := .load 39 (.tmp 29)) ?_); refine wpList_loadg rfl 39 (.tmp 29) rfl bc (off + i * 20) rfl cs _ h5 Try.underlying39 rfl (by rw [Try.size39, H1.out]) ?_)
      refine (pauses_any cs _ h3 _).mono ?_
      rintro e w1 ⟨rfl, hb1⟩
      rw [← hpb]
      have HP := Lib.hid hpb
      clear hpb h3 h5
      have hP1 := hP.below hb1
      have hg1 := grown_any hb1 (some g)
      clear hP hb1 c0 c1 c2 c3 c4 hci
      obtain ⟨c0, c1, c2, c3, c4⟩ := hP1.cells
      have hci := hP1.free i
      have hcx := hP1.cell hil
      obtain ⟨ox, hox⟩ : ∃ ox : Int, ox = (Fl.at0 M i : Int) := ⟨_, rfl⟩
      rw [← hox] at hcx
      clear hox
      have heq := Fl.lenOf_eq HC.out hr
      cases pb' with
      | true =>
        have hnx : Fl.nexts I i = [] := by unfold Fl.nexts; rw [if_pos HP.out.symm]
        rw [hnx] at heq
        have HE := Lib.hid heq
        clear heq hnx
        have hst := hP1.store hr 1 (by rw [HE.out]; rfl)
        have HST := Lib.hid hst
        clear hst
        go_wp2_with fail
        go_ret
        exact ⟨_, ret_int (by rw [HE.out]; rfl), HST.out.1, gtrans hg1 HST.out.2⟩
      | false =>
        have hnx : Fl.nexts I i = Fl.nextL I i := by unfold Fl.nexts; rw [if_neg (by rw [← HP.out]; simp)]
        rw [hnx] at heq
        clear hnx
        have hsz1 := hg1.size
        have hltg := hP1.ltg
        have hltp := hP1.lt
        go_wp2_with fail
        refine (next_any s p q _ cap I i _ (by omega) (hP1.code.more (Nat.le_of_lt (Nat.lt_of_le_of_lt hP1.bp hltp)))).mono ?_
        rintro e w2 ⟨A5, cap5, rfl, ho5, hb5⟩
        have hP2 := hP1.below hb5
        have hg2 := gtrans hg1 (grown_any hb5 (some g))
        have hnl := Fl.nextL_len I i
        have hmem : ∀ k, k < (Fl.nextL I i).length → ∃ j : Nat, (Fl.nextL I i).getD k 0 = (j : Int) ∧ Fl.has (Fl.reachL I) j ∧ Fl.lenOf I j ≤ m ∧ Fl.lenOf I j ≤ I.length := fun k hk => by
          have h1 : (Fl.nextL I i).getD k 0 ∈ Fl.nextL I i := by rw [List.getD_eq_getElem?_getD, List.getElem?_eq_getElem hk]; simp
          have h2 := Fl.nextL_mem h1
          have h3 : ((Fl.nextL I i).getD k 0) = (((Fl.nextL I i).getD k 0).toNat : Int) := by omega
          have h4 : Fl.Edge I i ((Fl.nextL I i).getD k 0).toNat := by unfold Fl.Edge; rw [← h3]; exact h1
          have h5 := Fl.lenOf_next HC.out hr HP.out.symm h4
          exact ⟨_, h3, Fl.reachL_step hr h4, by omega, Fl.lenOf_le HC.out (Fl.reachL_step hr h4)⟩
        have HM := Lib.hid hmem
        have HE := Lib.hid heq
        clear heq hmem hP1 hb5 c0 c1 c2 c3 c4 hci hcx
        generalize hL : Fl.nextL I i = L at *
        clear hL
        go_wp2_with fail
        go_loopw [5, 40] (fun v j wr => ∃ (k : Nat) (M' : List Nat) (f : Nat), k ≤ L.length ∧ j = .int .i64 k ∧ v = .int .i64 (f : Int) ∧ f = Fl.farTo (fun j => Fl.lenOf I j.toNat) L k ∧ f ≤ I.length ∧ PathsAt wr Bc pb g s p q (some ⟨bc, off, none⟩) cap I M' ∧ w.grownBy wr (some g) ∧ Own wr w1.heap.size A5 cap5 L)
          (fun _ j _ => L.length - (intOf j).toNat)
        case atStart => exact ⟨0, M, 0, Nat.zero_le _, rfl, rfl, rfl, Nat.zero_le _, hP2, hg2, ho5⟩
        case round =>
          clear hP2 hg2 ho5
          obtain ⟨k, M', f, hk, rfl, rfl, hf, hfl, hPr, hgr, hor⟩ := hrel
          have HF := Lib.hid hf
          clear hf
          obtain ⟨c0, c1, c2, c3, c4⟩ := hPr.cells
          by_cases hlt : k < L.length
          · obtain ⟨g5, rfl, _, hg5, hc5⟩ := hor.cell (by omega)
            obtain ⟨j, hj, hrj, hlj, hlj2⟩ := HM.out k hlt
            have hcell := hc5 k hlt
            rw [hj] at hcell
            clear hc5
            have hstep : Fl.farTo (fun j => Fl.lenOf I j.toNat) L (k + 1) = max f (Fl.lenOf I j) := by
              rw [Fl.farTo, ← HF.out, hj]
              simp
            have HS := Lib.hid hstep
            clear hstep hj
            go_wp2_with fail
            refine (IH.out j M' _ hlj hrj hPr).mono ?_
            rintro e w3 ⟨M3, rfl, hP3, hg3⟩
            have ho3 : Own w3 w1.heap.size (some ⟨g5, 0, none⟩) cap5 L := World.ownsRow.kept hor hg3 (.inr (by simp [Value.ownBlock]; omega))
            have hg3' := gtrans hgr hg3
            clear hPr hor hgr hg3 c0 c1 c2 c3 c4 hcell
            generalize hb : Fl.lenOf I j = lj at *
            clear hb
            by_cases hab : f < lj
            · go_wp2_with fail
              go_roundw
              case rel => exact ⟨k + 1, M3, lj, by omega, by go_num, rfl, by rw [HS.out]; omega, hlj2, hP3, hg3', ho3⟩
              case measure => simp [intOf]; omega
            · go_wp2_with fail
              go_roundw
              case rel => exact ⟨k + 1, M3, f, by omega, by go_num, rfl, by rw [HS.out]; omega, hfl, hP3, hg3', ho3⟩
              case measure => simp [intOf]; omega
          · obtain rfl : k = L.length := by omega
            have hst := hPr.store hr ((f : Int) + 1) (by rw [HE.out, ← HF.out]; omega)
            have hfr := hPr.free i
            have hcx := hPr.cell hil
            obtain ⟨ox, hox⟩ : ∃ ox : Int, ox = (Fl.at0 M' i : Int) := ⟨_, rfl⟩
            rw [← hox] at hcx
            have HST := Lib.hid hst
            clear hst hox
            go_wp2_with fail
            go_ret
            exact ⟨_, ret_int (by rw [HE.out, ← HF.out]; omega), HST.out.1, gtrans hgr HST.out.2⟩
    · rw [hl] at hci
      clear hl
      go_enter Try.func23, Try.ntmps23
      go_wp2_with fail
      go_ret
      exact ⟨M, rfl, hP, World.grownBy.refl _ _⟩

def LongestPost (w : World) (I : Fl.Rt) (e : Ending) (w' : World) : Prop := e = .returned (.tuple #[.int .i64 ((Fl.longestL I).1 : Int), .bool (Fl.longestL I).2]) ∧ Below w.heap.size w w'

theorem make_ints (n : Nat) (hn : n ≤ 4398046511104) (w : World) : (Instr.makeSlice 35 (.int .i64 (n : Int)) (.int .i64 (n : Int))).run Try.prog w = .ok (.slice (some ⟨w.heap.size, 0, none⟩) n n) (w.alloc (.cells (madeCells #[.int .i64 0] n) 3)) := by
  obtain ⟨i0, hi, hz0, hz1, hz2⟩ := info_parts Try.info3
  have hr := run_make (P := Try.prog) w 35 3 i0 (.int .i64 0) Try.underlying35 hi hz0 .i64 .i64 n n (by omega) (Int.le_refl _) (by rw [hz2]; omega) (by omega)
  simp only [Int.toNat_natCast] at hr
  rw [hz1, Nat.mul_one] at hr
  exact hr

set_option maxHeartbeats 1000000 in
theorem longest_any (s : ByteArray) (p q : Int) (A : Option Addr) (cap : Nat) (I : Fl.Rt) (w : World) (hn : I.length ≤ 4398046511104) (hc : CodeAt w w.heap.size A I) :
    Calls Try.prog 9 #[.agg #[.string s, .int .i64 p, .int .i64 q, .slice A I.length cap]] w (LongestPost w I) := by
  have hb : Below w.heap.size w (w.alloc (box s p q A I.length cap)) := (Below.refl _ _).alloc (Nat.le_refl _) _
  have hmk := make_ints I.length hn
  go_enter Try.func9, Try.ntmps9
  go_wp2_with fail
  refine (spins_any s p q A cap I _ hn ?_).mono ?_
  · exact (hc.below hb).more (by simp)
  rintro e w1 ⟨A1, cap1, rfl, ho1, hb1⟩
  simp only [World.size_alloc] at hb1 ho1
  obtain ⟨c0, c1, c2, c3⟩ := box_cells (Nat.lt_succ_self _) hb1
  have hsl := Fl.spinTo_len I I.length
  have hlt1 : w.heap.size < w1.heap.size := Nat.lt_of_succ_le (by have := hb1.size; simpa using this)
  by_cases hcalm : Fl.spinsL I = []
  · have hl0 : (Fl.spinsL I).length = 0 := by rw [hcalm]; rfl
    have HC := Lib.hid hcalm
    clear hcalm hsl
    rw [hl0]
    clear hl0
    go_wp2_with fail
    go_region
    have hbW : Below w.heap.size w ((w1.alloc (.cells (madeCells #[.int .i64 0] I.length) 3)).alloc (.cells #[.string s, .int .i64 p, .int .i64 q, .slice A I.length cap, .slice (some ⟨w1.heap.size, 0, none⟩) I.length I.length] 54)).drew :=
      (((below_box hb1).alloc (Nat.le_of_lt hlt1) _).alloc (by simp; omega) _).drew
    have hPW : PathsAt ((w1.alloc (.cells (madeCells #[.int .i64 0] I.length) 3)).alloc (.cells #[.string s, .int .i64 p, .int .i64 q, .slice A I.length cap, .slice (some ⟨w1.heap.size, 0, none⟩) I.length I.length] 54)).drew w.heap.size (w1.heap.size + 1) w1.heap.size s p q A cap I (List.replicate I.length 0) := by
      refine ⟨hc.below hbW, Nat.le_of_lt hlt1, by omega, by omega, ?_, ?_, Fl.Memo.init I⟩
      · have := heap_alloc_last (w1.alloc (.cells (madeCells #[.int .i64 0] I.length) 3)) (.cells #[.string s, .int .i64 p, .int .i64 q, .slice A I.length cap, .slice (some ⟨w1.heap.size, 0, none⟩) I.length I.length] 54)
        rw [World.size_alloc] at this
        exact this
      · have := World.ownsRow_lit (base := w.heap.size) (e := 3) (size := 1) w1 (madeCells #[.int .i64 0] I.length) I.length (Nat.le_of_lt hlt1) (by unfold maxLen; omega) (by rw [size_madeCells, Nat.mul_one])
        rw [toList_madeCells_one] at this
        unfold Own
        have e1 : (ints (List.replicate I.length 0)) = List.replicate I.length 0 := by simp [ints]
        rw [e1, List.length_replicate, List.map_replicate]
        exact World.ownsRow.alloc this _
    have HPW := Lib.hid hPW
    clear hPW
    go_wp2_with fail
    clear c0 c1 c2 c3
    refine (reach_any s p q A cap I _ hn ((hc.below hbW).more hbW.size)).mono ?_
    rintro e w3 ⟨gR, rfl, hS, hb3⟩
    have hP3 := HPW.out.below hb3
    have hS3 := hS.mono hbW.size
    have hb3' := hbW.trans (hb3.mono hbW.size)
    clear hS hb3 hbW HPW hb1 hmk
    generalize hg0 : w1.heap.size = g0 at *
    clear hg0
    go_wp2_with fail
    go_loopw [5, 22] (fun v j wr => ∃ (k : Nat) (M' : List Nat) (f : Nat), k ≤ I.length ∧ j = .int .i64 k ∧ v = .int .i64 (f : Int) ∧ f = Fl.bestTo I k ∧ f ≤ I.length ∧ PathsAt wr w.heap.size (g0 + 1) g0 s p q A cap I M' ∧ OwnB wr w.heap.size gR I.length (Fl.reachL I) ∧ Below w.heap.size w wr)
      (fun _ j _ => I.length - (intOf j).toNat)
    case atStart => exact ⟨0, _, 0, Nat.zero_le _, rfl, rfl, rfl, Nat.zero_le _, hP3, hS3, hb3'⟩
    case round =>
      clear hP3 hS3 hb3'
      obtain ⟨k, M', f, hk, rfl, rfl, hf, hfl, hPr, hSr, hbr⟩ := hrel
      have HF := Lib.hid hf
      clear hf
      by_cases hlt : k < I.length
      · have hcS := hSr.cell (k := k) (by rw [Fl.reachL_len]; exact hlt)
        obtain ⟨rb, hrb⟩ : ∃ rb, rb = (Fl.reachL I).getD k false := ⟨_, rfl⟩
        rw [← hrb] at hcS
        have hstep : Fl.bestTo I (k + 1) = if rb then max f (Fl.lenOf I k) else f := by rw [Fl.bestTo, ← HF.out, ← hrb]
        have HS := Lib.hid hstep
        have HR := Lib.hid hrb
        clear hstep hrb
        cases rb with
        | false =>
          go_wp2_with fail
          go_roundw
          case rel => exact ⟨k + 1, M', f, by omega, by go_num, rfl, by rw [HS.out]; rfl, hfl, hPr, hSr, hbr⟩
          case measure => simp [intOf]; omega
        | true =>
          have hrk : Fl.has (Fl.reachL I) k := HR.out.symm
          have hle := Fl.lenOf_le HC.out hrk
          go_wp2_with fail
          refine (from_any s p q A cap I hn HC.out w.heap.size (g0 + 1) g0 (Fl.lenOf I k) k M' _ (Nat.le_refl _) hrk hPr).mono ?_
          rintro e w4 ⟨M4, rfl, hP4, hg4⟩
          have hS4 : OwnB w4 w.heap.size gR I.length (Fl.reachL I) := World.ownsRow.kept hSr hg4 (.inr (fun e => own_apart hSr hPr.own (by simpa [Value.ownBlock] using e.symm)))
          have hb4 := hbr.trans (below_of_grown hg4 hbr.size hPr.bg)
          clear hPr hSr hbr hg4 hrk hcS
          generalize hlj : Fl.lenOf I k = lj at *
          clear hlj
          by_cases hab : f < lj
          · go_wp2_with fail
            go_roundw
            case rel => exact ⟨k + 1, M4, lj, by omega, by go_num, rfl, by rw [HS.out, if_pos trivial]; omega, hle, hP4, hS4, hb4⟩
            case measure => simp [intOf]; omega
          · go_wp2_with fail
            go_roundw
            case rel => exact ⟨k + 1, M4, f, by omega, by go_num, rfl, by rw [HS.out, if_pos trivial]; omega, hfl, hP4, hS4, hb4⟩
            case measure => simp [intOf]; omega
      · obtain rfl : k = I.length := by omega
        go_wp2_with fail
        go_ret2
        have e : Fl.longestL I = (f, true) := by unfold Fl.longestL; rw [if_pos HC.out, HF.out]
        unfold LongestPost
        rw [e]
        exact ⟨rfl, hbr⟩
  · have hpos : 0 < (Fl.spinsL I).length := List.length_pos_iff.2 hcalm
    have HC := Lib.hid hcalm
    clear hcalm
    go_wp2_with fail
    go_ret2
    have e : Fl.longestL I = (0, false) := by unfold Fl.longestL; rw [if_neg HC.out]
    unfold LongestPost
    rw [e]
    exact ⟨rfl, below_box hb1⟩
end Go.Proofs.Ytnbaofkgakgpgaa
