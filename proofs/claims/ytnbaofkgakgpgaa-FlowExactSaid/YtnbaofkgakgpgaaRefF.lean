/- The walk of the reference's spread. -/
import Derived.Test.YtnbaofkgakgpgaaRefE
import Derived.Test.YtnbaofkgakgpgaaSpins
namespace Go.Proofs.Ytnbaofkgakgpgaa
open Go.RowKit

theorem box_grown {s : ByteArray} {p q : Int} {A : Option Addr} {n cap g : Nat} {w w' : World} (hgw : g < w.heap.size) (h : (w.alloc (box s p q A n cap)).grownBy w' (some g)) :
    w'.cell? ⟨w.heap.size, 0, none⟩ = some (.string s) ∧ w'.cell? ⟨w.heap.size, 1, none⟩ = some (.int .i64 p) ∧ w'.cell? ⟨w.heap.size, 2, none⟩ = some (.int .i64 q) ∧ w'.cell? ⟨w.heap.size, 3, none⟩ = some (.slice A n cap) := by
  refine ⟨h.cell (a := ⟨w.heap.size, 0, none⟩) ?_ (by simp; omega), h.cell (a := ⟨w.heap.size, 1, none⟩) ?_ (by simp; omega), h.cell (a := ⟨w.heap.size, 2, none⟩) ?_ (by simp; omega), h.cell (a := ⟨w.heap.size, 3, none⟩) ?_ (by simp; omega)⟩ <;>
    simp [World.cell?_alloc_at]
theorem base_grown {w w' : World} {o : Obj} {g B : Nat} (hB : B ≤ w.heap.size) (hg : B ≤ g) (h : (w.alloc o).grownBy w' (some g)) : Below B w w' :=
  ((Below.refl _ _).alloc hB _).trans (below_of_grown h (by simp; omega) hg)
theorem sweep_off {I : Fl.Rt} {calm : Bool} {S T : List Bool} {i : Nat} (hS : S = Fl.sweepTo I calm T i) (h : S.getD i false = false ∨ Fl.stops I calm i = true) : S = Fl.sweepTo I calm T (i + 1) := by
  rw [Fl.sweepTo, ← hS, Fl.sweep1, if_neg]
  rcases h with h | h <;> rw [h] <;> simp
theorem sweep_on {I : Fl.Rt} {calm : Bool} {S T L : List _} {i : Nat} (hS : S = Fl.sweepTo I calm T i) (hL : L = Fl.nextL I i) (h1 : S.getD i false = true) (h2 : Fl.stops I calm i = false) : Fl.markTo S L L.length = Fl.sweepTo I calm T (i + 1) := by
  rw [Fl.sweepTo, ← hS, Fl.sweep1, if_pos (by simp only [h1, h2]; rfl), hL]
  rfl
theorem rpauses_is (cs : Array Value) (o : Int) (b : Bool) (hc : cs[0]? = some (.int .i64 o)) (hb : Fl.pz o = b) (w : World) : Calls Try.prog 12 #[.agg cs] w fun e w' => e = .returned (.bool b) ∧ Below w.heap.size w w' := by
  subst hb; exact rpauses_any cs o hc w
set_option maxHeartbeats 2000000 in
theorem rspread_any (s : ByteArray) (p q : Int) (A : Option Addr) (cap : Nat) (I : Fl.Rt) (B g cap0 : Nat) (S0 : List Bool) (calm : Bool) (w : World)
    (hn : I.length ≤ 4398046511104) (hB : B ≤ w.heap.size) (hc : CodeAt w B A I) (hS0 : OwnB w B g cap0 S0) (hl : S0.length = I.length) :
    Calls Try.prog 29 #[.agg #[.string s, .int .i64 p, .int .i64 q, .slice A I.length cap], .slice (some ⟨g, 0, none⟩) I.length cap0, .bool calm] w fun e w' =>
      e = .returned (.slice (some ⟨g, 0, none⟩) I.length cap0) ∧ OwnB w' B g cap0 (Fl.rspread I calm S0) ∧ w.grownBy w' (some g) := by
  have hgw := hS0.lt.2
  have hg0 := hS0.lt.1
  have hS1 : OwnB (w.alloc (box s p q A I.length cap)) B g cap0 S0 := hS0.below ((Below.refl _ _).alloc (Nat.le_refl _) _)
  clear hS0
  go_enter Try.func29, Try.ntmps29
  go_wp2_with fail
  go_loopw [7] (fun v wr => ∃ k : Nat, k ≤ I.length ∧ v = .int .i64 k ∧ OwnB wr B g cap0 (Fl.roundsTo I calm S0 k) ∧ (w.alloc (box s p q A I.length cap)).grownBy wr (some g))
    (fun v _ => I.length - (intOf v).toNat)
  case atStart => exact ⟨0, Nat.zero_le _, rfl, hS1, World.grownBy.refl _ _⟩
  case round =>
    clear hS1
    obtain ⟨k, hk, rfl, hF, hg1⟩ := hrel
    by_cases hlt : k < I.length
    · obtain ⟨SK, hSK⟩ : ∃ SK, SK = Fl.roundsTo I calm S0 k := ⟨_, rfl⟩
      have hSKl : SK.length = I.length := by rw [hSK, Fl.roundsTo_len, hl]
      have hnext : Fl.roundsTo I calm S0 (k + 1) = Fl.sweepTo I calm SK I.length := by rw [Fl.roundsTo, ← hSK, hl]
      rw [← hSK] at hF
      have HN := Lib.hid hnext
      clear hSK hnext
      go_wp2_with fail
      obtain ⟨wo, rfl⟩ : ∃ wo : World, wo = wr := ⟨_, rfl⟩
      go_loopw [8] (fun v wi => ∃ i : Nat, i ≤ I.length ∧ v = .int .i64 i ∧ OwnB wi B g cap0 (Fl.sweepTo I calm SK i) ∧ (w.alloc (box s p q A I.length cap)).grownBy wi (some g))
        (fun v _ => I.length - (intOf v).toNat)
      case atStart => exact ⟨0, Nat.zero_le _, rfl, hF, hg1⟩
      case round =>
        clear hF hg1
        obtain ⟨i, hi, rfl, hF, hg1⟩ := hrel
        have hg2 := hg1
        by_cases hilt : i < I.length
        · obtain ⟨S, hS⟩ : ∃ S, S = Fl.sweepTo I calm SK i := ⟨_, rfl⟩
          have hSl : S.length = I.length := by rw [hS, Fl.sweepTo_len, hSKl]
          rw [← hS] at hF
          have HS := Lib.hid hS
          clear hS
          have hci := hF.cell (k := i) (by omega)
          have hF1 := hF
          clear hF
          obtain ⟨c0, c1, c2, c3⟩ := box_grown hgw hg1
          cases hsi : S.getD i false with
          | false =>
            rw [hsi] at hci
            have HSI := Lib.hid hsi
            clear hsi
            go_wp2_with fail
            go_roundw
            case rel => exact ⟨i + 1, by omega, by go_num, by rw [← sweep_off HS.out (.inl HSI.out)]; exact hF1, hg1⟩
            case measure => simp [intOf]; omega
          | true =>
            rw [hsi] at hci
            have HSI := Lib.hid hsi
            clear hsi
            cases calm with
            | false =>
              have hstop : Fl.stops I false i = false := rfl
              go_wp2_with fail
              refine (rnext_any s p q A cap I i _ (by omega) ((hc.below (base_grown hB hg0 hg1)).more (Nat.le_trans hB (by have := hg1.size; simp at this; omega)))).mono ?_
              rintro e w3 ⟨A5, cap5, rfl, ho5, hb5⟩
              have hF3 := hF1.below hb5
              have hg3 := gtrans hg1 (grown_any hb5 (some g))
              have hnl := Fl.nextL_len I i
              have HM := Lib.hid (fun m (hm : m < (Fl.nextL I i).length) => next_nat (I := I) (i := i) hm)
              clear hF1 hg1 hb5 c0 c1 c2 c3
              go_wp2_with fail
              obtain ⟨L, hL⟩ : ∃ L, L = Fl.nextL I i := ⟨_, rfl⟩
              rw [← hL] at ho5 hnl HM ⊢
              have HL := Lib.hid hL
              clear hL
              obtain ⟨wp, rfl⟩ : ∃ wp : World, wp = wr := ⟨_, rfl⟩
              have hszp : B ≤ wp.heap.size := by have := hg2.size; simp at this; omega
              have ho6 : Own w3 B A5 cap5 L := ho5.mono hszp
              clear ho5
              go_loopw [10] (fun v wi => ∃ m : Nat, m ≤ L.length ∧ v = .int .i64 m ∧ OwnB wi B g cap0 (Fl.markTo S L m) ∧ Own wi B A5 cap5 L ∧ (w.alloc (box s p q A I.length cap)).grownBy wi (some g))
                (fun v _ => L.length - (intOf v).toNat)
              case atStart => exact ⟨0, Nat.zero_le _, rfl, hF3, ho6, hg3⟩
              case round =>
                clear hF3 ho6 hg3
                obtain ⟨m, hm, rfl, hF4, ho4, hg4⟩ := hrel
                by_cases hmlt : m < L.length
                · obtain ⟨g6, rfl, hg6l, hg6r, hc6⟩ := ho4.cell (by omega)
                  obtain ⟨j, hj, hjl⟩ := HM.out m hmlt
                  have hcm := hc6 m hmlt
                  rw [hj] at hcm
                  have hmk : Fl.markTo S L (m + 1) = (Fl.markTo S L m).set j true := by rw [Fl.markTo, hj]; simp
                  have hml := Fl.markTo_len S L m
                  have hcf := hF4.cell (k := j) (by rw [hml, hSl]; exact hjl)
                  have hff := hF4.free j
                  have hst := hF4.store j true
                  rw [← hmk] at hst
                  have HF := Lib.hid hst.1
                  have HO := Lib.hid (ho4.grown hF4 hst.2)
                  have HG := Lib.hid (gtrans hg4 hst.2)
                  have hd6 : decide ((j : Int) < 0) = false := by simp
                  have hd7 : decide (I.length ≤ j) = false := by simp; omega
                  have hf7 := hF4.lt.2
                  clear hj hc6 hmk hml hst hF4 ho4 hg4
                  go_wp2_with fail
                  go_roundw
                  case rel => exact ⟨m + 1, by omega, by go_num, HF.out, HO.out, HG.out⟩
                  case measure => simp [intOf]; omega
                · obtain rfl : m = L.length := by omega
                  go_wp2_with fail
                  go_roundw
                  case rel =>
                    refine ⟨i + 1, by omega, by go_num, ?_, hg4⟩
                    rw [← sweep_on HS.out HL.out HSI.out hstop]
                    exact hF4
                  case measure => simp [intOf]; omega
            | true =>
              obtain ⟨bc, off, rfl, hbc, hcode⟩ := hc (by omega)
              obtain ⟨cs, h1, h2, h3, h4, h5⟩ := hcode i hilt
              have hr : wr.rangeAt bc (off + i * 20) cs.toList := fun j v hj => ((base_grown hB hg0 hg1).cell (p := ⟨bc, off + i * 20 + j, none⟩) hbc).trans (h5 j v hj)
              have hd3 : decide ((i : Int) < 0) = false := by simp
              have hd4 : decide (I.length ≤ i) = false := by simp; omega
              have hd5 : decide ((I.length : Int) ≤ (i : Int)) = false := by simp; omega
              have H1 := Lib.hid h1
              clear h1 h2 h4 h5 hcode
              cases hpz : Fl.pz (Fl.opOf I i) with
              | true =>
                have hstop : Fl.stops I true i = true := by rw [Fl.stops_true, hpz]
                go_wp2_with ((with_reducible refine at_op (d := some 34) (op := .load 39 (.tmp 33)) ?_); refine wpList_loadg rfl 39 (.tmp 33) rfl bc (off + i * 20) rfl cs _ hr Try.underlying39 rfl (by rw [Try.size39, H1.out]) ?_)
                refine (rpauses_is cs _ true h3 hpz _).mono ?_
                rintro e w5 ⟨rfl, hb5⟩
                have hF5 := hF1.below hb5
                have hg5 := gtrans hg1 (grown_any hb5 (some g))
                clear hr h3 c0 c1 c2 c3 hci hF1 hb5
                go_wp2_with fail
                go_roundw
                case rel => exact ⟨i + 1, by omega, by go_num, by rw [← sweep_off HS.out (.inr hstop)]; exact hF5, hg5⟩
                case measure => simp [intOf]; omega
              | false =>
                have hstop : Fl.stops I true i = false := by rw [Fl.stops_true, hpz]
                go_wp2_with ((with_reducible refine at_op (d := some 34) (op := .load 39 (.tmp 33)) ?_); refine wpList_loadg rfl 39 (.tmp 33) rfl bc (off + i * 20) rfl cs _ hr Try.underlying39 rfl (by rw [Try.size39, H1.out]) ?_)
                refine (rpauses_is cs _ false h3 hpz _).mono ?_
                rintro e w5 ⟨rfl, hb5⟩
                have hF5 := hF1.below hb5
                have hg5 := gtrans hg1 (grown_any hb5 (some g))
                clear hr h3 c0 c1 c2 c3 hci hF1 hb5
                obtain ⟨c0, c1, c2, c3⟩ := box_grown hgw hg5
                go_wp2_with fail
                refine (rnext_any s p q (some ⟨bc, off, none⟩) cap I i _ (by omega) ((hc.below (base_grown hB hg0 hg5)).more (Nat.le_trans hB (by have := hg5.size; simp at this; omega)))).mono ?_
                rintro e w3 ⟨A5, cap5, rfl, ho5, hb5⟩
                have hF3 := hF5.below hb5
                have hg3 := gtrans hg5 (grown_any hb5 (some g))
                have hnl := Fl.nextL_len I i
                have HM := Lib.hid (fun m (hm : m < (Fl.nextL I i).length) => next_nat (I := I) (i := i) hm)
                clear hF5 hb5 c0 c1 c2 c3
                go_wp2_with fail
                obtain ⟨L, hL⟩ : ∃ L, L = Fl.nextL I i := ⟨_, rfl⟩
                rw [← hL] at ho5 hnl HM ⊢
                have HL := Lib.hid hL
                clear hL
                obtain ⟨wp, rfl⟩ : ∃ wp : World, wp = wr := ⟨_, rfl⟩
                have hszp : B ≤ w5.heap.size := by have := hg5.size; simp at this; omega
                have ho6 : Own w3 B A5 cap5 L := ho5.mono hszp
                clear ho5 hg5
                go_loopw [10] (fun v wi => ∃ m : Nat, m ≤ L.length ∧ v = .int .i64 m ∧ OwnB wi B g cap0 (Fl.markTo S L m) ∧ Own wi B A5 cap5 L ∧ (w.alloc (box s p q (some ⟨bc, off, none⟩) I.length cap)).grownBy wi (some g))
                  (fun v _ => L.length - (intOf v).toNat)
                case atStart => exact ⟨0, Nat.zero_le _, rfl, hF3, ho6, hg3⟩
                case round =>
                  clear hF3 ho6 hg3
                  obtain ⟨m, hm, rfl, hF4, ho4, hg4⟩ := hrel
                  by_cases hmlt : m < L.length
                  · obtain ⟨g6, rfl, hg6l, hg6r, hc6⟩ := ho4.cell (by omega)
                    obtain ⟨j, hj, hjl⟩ := HM.out m hmlt
                    have hcm := hc6 m hmlt
                    rw [hj] at hcm
                    have hmk : Fl.markTo S L (m + 1) = (Fl.markTo S L m).set j true := by rw [Fl.markTo, hj]; simp
                    have hml := Fl.markTo_len S L m
                    have hcf := hF4.cell (k := j) (by rw [hml, hSl]; exact hjl)
                    have hff := hF4.free j
                    have hst := hF4.store j true
                    rw [← hmk] at hst
                    have HF := Lib.hid hst.1
                    have HO := Lib.hid (ho4.grown hF4 hst.2)
                    have HG := Lib.hid (gtrans hg4 hst.2)
                    have hd6 : decide ((j : Int) < 0) = false := by simp
                    have hd7 : decide (I.length ≤ j) = false := by simp; omega
                    have hf7 := hF4.lt.2
                    clear hj hc6 hmk hml hst hF4 ho4 hg4
                    go_wp2_with fail
                    go_roundw
                    case rel => exact ⟨m + 1, by omega, by go_num, HF.out, HO.out, HG.out⟩
                    case measure => simp [intOf]; omega
                  · obtain rfl : m = L.length := by omega
                    go_wp2_with fail
                    go_roundw
                    case rel =>
                      refine ⟨i + 1, by omega, by go_num, ?_, hg4⟩
                      rw [← sweep_on HS.out HL.out HSI.out hstop]
                      exact hF4
                    case measure => simp [intOf]; omega
        · obtain rfl : i = I.length := by omega
          go_wp2_with fail
          go_roundw
          case rel => exact ⟨k + 1, by omega, by go_num, by rw [HN.out]; exact hF, hg1⟩
          case measure => simp [intOf]; omega
    · obtain rfl : k = I.length := by omega
      go_wp2_with fail
      go_ret
      refine ⟨rfl, ?_, gtrans (World.grownBy_alloc _ _ _) hg1⟩
      unfold Fl.rspread
      rw [hl]
      exact hF
end Go.Proofs.Ytnbaofkgakgpgaa
