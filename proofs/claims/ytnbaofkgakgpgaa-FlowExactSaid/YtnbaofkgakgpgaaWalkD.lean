/- The walks of spread and Reach of the program. -/
import Derived.Test.YtnbaofkgakgpgaaWalkC
namespace Go.Proofs.Ytnbaofkgakgpgaa
open Go.RowKit

theorem Own.cap_le {w : World} {B : Nat} {A : Option Addr} {cap : Nat} {l : List Int} (h : Own w B A cap l) : l.length ≤ cap ∧ cap ≤ maxLen := by
  rcases h.2 with ⟨h0, hl⟩ | ⟨g', cap', cur, hv, _, _, h1, h2, _⟩
  · simp only [Value.slice.injEq] at h0
    rw [hl, h0.2.2]
    exact ⟨Nat.le_refl _, Nat.zero_le _⟩
  · simp only [Value.slice.injEq] at hv
    rw [hv.2.2]
    exact ⟨h1, h2⟩

def SpreadPost (w : World) (I : Fl.Rt) (quiet : Bool) (F : List Int) (e : Ending) (w' : World) : Prop :=
  ∃ g S, e = .returned (.slice (some ⟨g, 0, none⟩) I.length I.length) ∧ OwnB w' w.heap.size g I.length S ∧ Fl.Sea I quiet F S [] ∧ Below w.heap.size w w'

set_option maxHeartbeats 1000000 in
theorem spread_any (s : ByteArray) (p q : Int) (A : Option Addr) (cap : Nat) (I : Fl.Rt) (A2 : Option Addr) (c2 : Nat) (F : List Int) (quiet : Bool) (w : World)
    (hn : I.length ≤ 4398046511104) (hc : CodeAt w w.heap.size A I) (hF : F.length ≤ 1000) (hI : Ints w w.heap.size A2 F) :
    Calls Try.prog 27 #[.agg #[.string s, .int .i64 p, .int .i64 q, .slice A I.length cap], .slice A2 F.length c2, .bool quiet] w (SpreadPost w I quiet (Fl.onlyL I.length F)) := by
  obtain ⟨i0, hi, hz0, hz1, hz2⟩ := info_parts Try.info3
  obtain ⟨i4, hi4, hy0, hy1, hy2⟩ := info_parts Try.info4
  go_enter Try.func27, Try.ntmps27
  go_wp2_with (at_make; refine wpList_make_full _ rfl _ _ 44 rfl (w.heap.size + 1) 4 i4 (.bool false) 1 Try.underlying44 hi4 hy0 hy1 _ _ _ _ I.length rfl rfl rfl rfl ?_ ?_ ?_ ?_)
  · rw [hy2]; omega
  · unfold maxLen; omega
  · simp
  intro w1 hs1 hg1
  have hb1 : Below (w.heap.size + 1) (w.alloc (box s p q A I.length cap)) w1 := (Below.refl _ _).grown hg1 (by simp) (by simp)
  have hsz1 : w.heap.size + 1 ≤ w1.heap.size := by have := hb1.size; simpa using this
  have hS1 : OwnB w1 (w.heap.size + 1) (w.heap.size + 1) I.length (List.replicate I.length false) := by
    unfold OwnB
    rw [toList_madeCells_one] at hs1
    simpa using hs1
  clear hs1 hg1
  obtain ⟨c0, c1, c2', c3⟩ := box_cells (Nat.lt_succ_self _) hb1
  have hlt1 : w.heap.size < w1.heap.size := hsz1
  go_wp2_with fail
  refine (only_ints s p q A I.length cap c2 A2 F w1 (by omega) ((hI.below (below_box hb1)).more (by omega))).mono ?_
  rintro e w2 ⟨A3, cap3, rfl, hT2, hb2⟩
  have hS2 := hS1.below hb2
  have hb2' := hb1.trans (hb2.mono hsz1)
  have hT2' : Own w2 (w.heap.size + 1) A3 cap3 (Fl.onlyL I.length F) := hT2.mono hsz1
  have hmem : ∀ t ∈ Fl.onlyL I.length F, 0 ≤ t ∧ t < (I.length : Int) := fun t ht => Fl.onlyTo_mem ht
  have hsea := Fl.Sea.init (quiet := quiet) hmem
  have hFl := Fl.onlyL_len I.length F
  clear hS1 hb1 hT2 hb2 c0 c1 c2' c3 hmem
  generalize hF0 : Fl.onlyL I.length F = F0 at *
  clear hF0
  go_wp2_with fail
  go_loopg [8] (2 * I.length + F0.length) (fun gk v wr => ∃ (S : List Bool) (T : List Int) (A' : Option Addr) (cap' : Nat), v = .slice A' T.length cap' ∧ 2 * (I.length - Fl.cnt S) + T.length ≤ gk ∧
    Own wr (w.heap.size + 1) A' cap' T ∧ OwnB wr (w.heap.size + 1) (w.heap.size + 1) I.length S ∧ Fl.Sea I quiet F0 S T ∧ Below (w.heap.size + 1) (w.alloc (box s p q A I.length cap)) wr)
  case atStart => exact ⟨_, F0, A3, cap3, rfl, by rw [Fl.cnt_replicate]; omega, hT2', hS2, hsea, hb2'⟩
  case round =>
    obtain ⟨S, T, A', cap', rfl, hk, hT, hS, hsea, hbel⟩ := hrel
    clear hT2' hS2 hb2'
    rcases List.eq_nil_or_concat T with rfl | ⟨T', x, hx⟩
    · go_wp2
      go_ret
      exact ⟨_, S, rfl, hS.mono (Nat.le_succ _), hsea, below_box hbel⟩
    · rw [List.concat_eq_append] at hx
      subst hx
      obtain ⟨i, rfl⟩ : ∃ i : Nat, x = (i : Int) := ⟨x.toNat, by have := (hsea.lo x (by simp)).1; omega⟩
      have hilt : i < I.length := by have := (hsea.lo (i : Int) (by simp)).2; omega
      obtain ⟨gT, rfl, hcT, hTp⟩ := hT.pop
      have hcapT := hT.cap_le
      rw [List.length_append, List.length_singleton] at hcapT
      simp only [maxLen] at hcapT
      have hSl : S.length = I.length := hsea.len
      have hcS : wr.cell? ⟨w.heap.size + 1, i, none⟩ = some (.bool (S.getD i false)) := hS.cell (by omega)
      have hfS : wr.frozen? ⟨w.heap.size + 1, i, none⟩ = false := hS.free i
      have HL := Lib.hid hSl
      clear hSl
      obtain ⟨c0, c1, c2', c3⟩ := box_cells (Nat.lt_succ_self _) hbel
      have hszr : w.heap.size + 1 ≤ wr.heap.size := by have := hbel.size; simpa using this
      have hltr : w.heap.size < wr.heap.size := hszr
      have hgS := hS.lt.2
      rw [List.length_append, List.length_singleton] at hk
      obtain ⟨sb, hsb⟩ : ∃ sb, sb = S.getD i false := ⟨_, rfl⟩
      rw [← hsb] at hcS
      cases sb with
      | true =>
        have HB := Lib.hid hsb
        clear hsb
        go_wp2_with fail
        go_roundg (gk - 1)
        case measure => omega
        case rel => exact ⟨S, T', some ⟨gT, 0, none⟩, cap', rfl, by omega, hTp, hS, hsea.skip (.inl HB.out.symm), hbel⟩
      | false =>
        have hns : ¬ Fl.has S i := by unfold Fl.has; rw [← hsb]; simp
        have HB := Lib.hid hns
        clear hsb hns
        cases quiet with
        | false =>
          have hst := hS.store i true
          have hb3 : Below (w.heap.size + 1) (w.alloc (box s p q A I.length cap)) (wr.setCell ⟨w.heap.size + 1, i, none⟩ (.bool true)) := hbel.setCell (Nat.le_refl _) _
          have hT3 := hTp.grown hS hst.2
          have hsz3 : (wr.setCell ⟨w.heap.size + 1, i, none⟩ (.bool true)).heap.size = wr.heap.size := by simp [World.setCell]
          go_wp2_with fail
          refine (next_any s p q A cap I i _ (by omega) ?_).mono ?_
          · exact (hc.below (below_box hb3)).more (by rw [hsz3]; omega)
          rintro e w4 ⟨A5, cap5, rfl, ho5, hb5⟩
          have hS4 := hst.1.below hb5
          have hT4 := hT3.below hb5
          have hb4 := hb3.trans (hb5.mono (by rw [hsz3]; omega))
          have hsz4 : w.heap.size + 1 ≤ w4.heap.size := by have := hb4.size; simpa using this
          have hnl := Fl.nextL_len I i
          have hsize := hsea.size
          rw [List.length_append, List.length_singleton] at hsize
          have hcnt := Fl.cnt_le S
          have HSL := Lib.hid (show Fl.cnt (S.set i true) = Fl.cnt S + 1 from Fl.cnt_set (by rw [HL.out]; exact hilt) HB.out)
          have hvis := hsea.visit HB.out rfl
          clear hb3 hT3 hst hb5 hT hTp
          go_wp2_with (at_builtin; refine wpList_push rfl (.tmp 49) (.tmp 52) 35 rfl i0 Try.underlying35 hi hz0 hz1 hz2 (w.heap.size + 1) (some ⟨gT, 0, none⟩) cap' T' rfl hT4 _ A5 cap5 _ rfl ho5 ?_ hsz4 ?_)
          · have := HL.out
            omega
          intro A6 cap6 w6 hT6 hg6
          have hS6 := hS4.grown hT4 hg6
          have hb6 := hb4.grown hg6 hsz4 (fun k hk => (World.ownsRow.lt hT4 k hk).1)
          clear hT4 hS4 hg6
          go_wp2_with fail
          go_roundg (gk - 1)
          case measure => omega
          case rel =>
            refine ⟨S.set i true, T' ++ Fl.nextL I i, A6, cap6, by rw [List.length_append], ?_, hT6, hS6, hvis, hb6⟩
            have hcs := Fl.cnt_le (S.set i true)
            rw [HSL.out, List.length_set] at hcs
            rw [HSL.out, List.length_append]
            have := HL.out
            omega
        | true =>
          obtain ⟨bc, off, rfl, hbc, hcode⟩ := hc (by omega)
          obtain ⟨cs, h1, h2, h3, h4, h5⟩ := hcode i hilt
          have hr : wr.rangeAt bc (off + i * 20) cs.toList := fun j v hj => ((below_box hbel).cell (p := ⟨bc, off + i * 20 + j, none⟩) hbc).trans (h5 j v hj)
          have H1 := Lib.hid h1
          clear h1 h2 h4 h5
          go_wp2_with ((with_reducible refine at_op (d := some 42) (op := .load 39 (.tmp 41)) ?_); refine wpList_loadg rfl 39 (.tmp 41) rfl bc (off + i * 20) rfl cs _ hr Try.underlying39 rfl (by rw [Try.size39, H1.out]) ?_)
          refine (pauses_any cs _ h3 _).mono ?_
          rintro e w1 ⟨rfl, hb1⟩
          clear hr h3
          obtain ⟨c0, c1, c2', c3⟩ := box_cells (Nat.lt_succ_self _) (hbel.trans (hb1.mono hszr))
          have hS1 := hS.below hb1
          have hT1 := hTp.below hb1
          have hbel1 := hbel.trans (hb1.mono hszr)
          have hsz1' := hb1.size
          have hfS1 := hS1.free i
          have hcS1 := hS1.cell (k := i) (by rw [HL.out]; exact hilt)
          rw [show S.getD i false = false by have := HB.out; simpa [Fl.has] using this] at hcS1
          obtain ⟨pb, hpb⟩ : ∃ pb, pb = Fl.pz (Fl.opOf I i) := ⟨_, rfl⟩
          rw [← hpb]
          have HP := Lib.hid hpb
          clear hpb
          cases pb with
          | true =>
            go_wp2_with fail
            go_roundg (gk - 1)
            case measure => omega
            case rel => exact ⟨S, T', some ⟨gT, 0, none⟩, cap', rfl, by omega, hT1, hS1, hsea.skip (.inr HP.out.symm), hbel1⟩
          | false =>
            have hst := hS1.store i true
            have hb3 : Below (w.heap.size + 1) (w.alloc (box s p q (some ⟨bc, off, none⟩) I.length cap)) (w1.setCell ⟨w.heap.size + 1, i, none⟩ (.bool true)) := hbel1.setCell (Nat.le_refl _) _
            have hT3 := hT1.grown hS1 hst.2
            have hsz3 : (w1.setCell ⟨w.heap.size + 1, i, none⟩ (.bool true)).heap.size = w1.heap.size := by simp [World.setCell]
            go_wp2_with fail
            refine (next_any s p q (some ⟨bc, off, none⟩) cap I i _ (by omega) ?_).mono ?_
            · exact (hc.below (below_box hb3)).more (by rw [hsz3]; omega)
            rintro e w4 ⟨A5, cap5, rfl, ho5, hb5⟩
            have hS4 := hst.1.below hb5
            have hT4 := hT3.below hb5
            have hb4 := hb3.trans (hb5.mono (by rw [hsz3]; omega))
            have hsz4 : w.heap.size + 1 ≤ w4.heap.size := by have := hb4.size; simpa using this
            have hnl := Fl.nextL_len I i
            have hsize := hsea.size
            rw [List.length_append, List.length_singleton] at hsize
            have hcnt := Fl.cnt_le S
            have HSL := Lib.hid (show Fl.cnt (S.set i true) = Fl.cnt S + 1 from Fl.cnt_set (by rw [HL.out]; exact hilt) HB.out)
            have hvis := hsea.visit HB.out HP.out.symm
            clear hb3 hT3 hst hb5 hT hTp hT1 hS1 hbel1
            go_wp2_with (at_builtin; refine wpList_push rfl (.tmp 49) (.tmp 52) 35 rfl i0 Try.underlying35 hi hz0 hz1 hz2 (w.heap.size + 1) (some ⟨gT, 0, none⟩) cap' T' rfl hT4 _ A5 cap5 _ rfl ho5 ?_ hsz4 ?_)
            · have := HL.out
              omega
            intro A6 cap6 w6 hT6 hg6
            have hS6 := hS4.grown hT4 hg6
            have hb6 := hb4.grown hg6 hsz4 (fun k hk => (World.ownsRow.lt hT4 k hk).1)
            clear hT4 hS4 hg6
            go_wp2_with fail
            go_roundg (gk - 1)
            case measure => omega
            case rel =>
              refine ⟨S.set i true, T' ++ Fl.nextL I i, A6, cap6, by rw [List.length_append], ?_, hT6, hS6, hvis, hb6⟩
              have hcs := Fl.cnt_le (S.set i true)
              rw [HSL.out, List.length_set] at hcs
              rw [HSL.out, List.length_append]
              have := HL.out
              omega
end Go.Proofs.Ytnbaofkgakgpgaa
