/- The walk of the statement CodecShort. -/
import Derived.Test.YtelanbiedfldgaaMade
namespace Go.Proofs.Ytelanbiedfldgaa
open Go.RowKit

set_option maxRecDepth 100000 in
set_option maxHeartbeats 2000000 in
theorem short_any (s : ByteArray) (A : Option Addr) (cap : Nat) (l : List Int) (cut : Int) (w : World) (hi : Ints w w.heap.size A l) (h64 : I64 l) (hs : s.size ≤ maxLen) (hl : l.length ≤ maxLen) :
    Calls Try.prog 4 #[.string s, .slice A l.length cap, .int .i64 cut] w fun e w' => e = .returned (.bool true) ∧ Below w.heap.size w w' := by
  unfold maxLen at hs hl
  by_cases hfew : ¬ (s.size ≤ 300 ∧ l.length ≤ 300)
  · go_enter Try.func4, Try.ntmps4
    go_wp2_with fail
    refine (few_on none A 0 0 l.length cap s false _ (by simp; omega)).mono ?_
    rintro e w1 ⟨rfl, hb1⟩
    go_wp2_with fail
    refine (awake_any _).mono ?_
    rintro e w2 ⟨rfl, hb2⟩
    go_wp2_with fail
    go_ret
    exact ⟨rfl, hb1.trans (hb2.mono hb1.size)⟩
  · have hf1 : s.size ≤ 300 := by omega
    have hf2 : l.length ≤ 300 := by omega
    have HF := Lib.hid (show (decide (0 ≤ 300) && (decide (s.size ≤ 300) && decide (l.length ≤ 300))) = true by simp [hf1, hf2])
    clear hfew
    by_cases h0 : l.length = 0
    · have hd0 : ((l.length : Int) == 0) = true := by simp [h0]
      clear h0
      go_enter Try.func4, Try.ntmps4
      go_wp2_with fail
      refine (few_on none A 0 0 l.length cap s true _ HF.out).mono ?_
      rintro e w1 ⟨rfl, hb1⟩
      go_wp2_with fail
      refine (awake_any _).mono ?_
      rintro e w2 ⟨rfl, hb2⟩
      go_wp2_with fail
      go_ret
      exact ⟨rfl, hb1.trans (hb2.mono hb1.size)⟩
    · have hd0 : ((l.length : Int) == 0) = false := by simp; exact fun h => h0 (by rw [h]; rfl)
      have hl0 : 0 < l.length := by omega
      clear h0
      by_cases hc : cut < 0
      · have hdc : decide (cut < 0) = true := decide_eq_true hc
        go_enter Try.func4, Try.ntmps4
        go_wp2_with fail
        refine (few_on none A 0 0 l.length cap s true _ HF.out).mono ?_
        rintro e w1 ⟨rfl, hb1⟩
        go_wp2_with fail
        refine (awake_any _).mono ?_
        rintro e w2 ⟨rfl, hb2⟩
        go_wp2_with fail
        go_ret
        exact ⟨rfl, hb1.trans (hb2.mono hb1.size)⟩
      · obtain ⟨c, rfl⟩ := Int.eq_ofNat_of_zero_le (show 0 ≤ cut by omega)
        have hdc : decide ((c : Int) < 0) = false := decide_eq_false hc
        obtain ⟨b, off, rfl, hbl, hcell⟩ := hi hl0
        have hx0 := h64.getD 0
        have hcell0 := hcell 0 hl0
        rw [Nat.add_zero] at hcell0
        obtain ⟨x, hx⟩ : ∃ x, x = l.getD 0 0 := ⟨_, rfl⟩
        rw [← hx] at hcell0 hx0
        have HI := Lib.hid hi
        have H64 := Lib.hid h64
        clear hi h64 hcell hx hc
        have hLA0 := enc_pos (Cd.num x)
        have hLA1 := enc_len (Cd.num x)
        have hCA0 : ∀ k : Nat, k < (Cd.enc (Cd.num x)).length → Cd.dec 0 0 ((Cd.enc (Cd.num x)).take k) = (0, 0, 7) := fun _ hk => Cd.dec_cut _ _ (Cd.num_lt hx0.1 hx0.2) hk
        obtain ⟨La, hLa⟩ : ∃ La, Cd.enc (Cd.num x) = La := ⟨_, rfl⟩
        have HBA := Lib.hid (show Cd.Byt La by rw [← hLa]; exact Cd.enc_byt _)
        rw [hLa] at hLA0 hLA1 hCA0
        have HCA := Lib.hid hCA0
        have HPA := Lib.hid hLa
        clear hCA0 hLa
        obtain ⟨na, hna⟩ : ∃ na, La.length = na := ⟨_, rfl⟩
        rw [hna] at hLA0 hLA1
        have HLA := Lib.hid hna
        clear hna
        have hsl := sb_len s
        have hLB0 : s.size < (Cd.enc (Cd.num s.size) ++ sb s).length := by rw [List.length_append, hsl]; have := enc_pos (Cd.num s.size); omega
        have hLB1 : (Cd.enc (Cd.num s.size) ++ sb s).length ≤ 1000 := by rw [List.length_append, hsl]; have := enc_len (Cd.num s.size); omega
        have hCB0 : ∀ k : Nat, k < (Cd.enc (Cd.num s.size) ++ sb s).length → Cd.textL ((Cd.enc (Cd.num s.size) ++ sb s).take k) 300 = ([], 0, 7) := by
          rw [← hsl]; exact fun _ hk => Cd.text_cut (by omega) (by omega) hk
        obtain ⟨Lb, hLb⟩ : ∃ Lb, Cd.enc (Cd.num s.size) ++ sb s = Lb := ⟨_, rfl⟩
        have HBB := Lib.hid (show Cd.Byt Lb by rw [← hLb]; exact Cd.byt_append (Cd.enc_byt _) (sb_byt s))
        rw [hLb] at hLB0 hLB1 hCB0
        have HCB := Lib.hid hCB0
        have HPB := Lib.hid hLb
        clear hCB0 hLb hsl
        obtain ⟨nb, hnb⟩ : ∃ nb, Lb.length = nb := ⟨_, rfl⟩
        rw [hnb] at hLB0 hLB1
        have HLB := Lib.hid hnb
        clear hnb
        have hLC0 : l.length < (Cd.enc (Cd.num l.length) ++ Cd.encs l).length := by rw [List.length_append]; have := enc_pos (Cd.num l.length); have := encs_longer l; omega
        have hLC1 : (Cd.enc (Cd.num l.length) ++ Cd.encs l).length ≤ 4000 := by rw [List.length_append]; have := enc_len (Cd.num l.length); have := cencs_len l; omega
        have hCC0 : ∀ k : Nat, k < (Cd.enc (Cd.num l.length) ++ Cd.encs l).length → Cd.intsL ((Cd.enc (Cd.num l.length) ++ Cd.encs l).take k) 300 = ([], 0, 7) :=
          fun _ hk => Cd.ints_cut (by omega) H64.out (by omega) hk
        obtain ⟨Lc, hLc⟩ : ∃ Lc, Cd.enc (Cd.num l.length) ++ Cd.encs l = Lc := ⟨_, rfl⟩
        have HBC := Lib.hid (show Cd.Byt Lc by rw [← hLc]; exact Cd.byt_append (Cd.enc_byt _) (Cd.encs_byt l))
        rw [hLc] at hLC0 hLC1 hCC0
        have HCC := Lib.hid hCC0
        have HPC := Lib.hid hLc
        clear hCC0 hLc
        obtain ⟨nc, hnc⟩ : ∃ nc, Lc.length = nc := ⟨_, rfl⟩
        rw [hnc] at hLC0 hLC1
        have HLC := Lib.hid hnc
        clear hnc
        go_enter Try.func4, Try.ntmps4
        go_wp2_with fail
        refine (few_on none _ 0 0 l.length cap s true _ HF.out).mono ?_
        rintro e w1 ⟨rfl, hb1⟩
        have hcell1 := (hb1.cell (p := ⟨b, off, none⟩) hbl).trans hcell0
        clear hcell0
        go_wp2_with fail
        refine (putInt_made x La na hx0.1 hx0.2 _ HPA.out HLA.out).mono ?_
        rintro e w2 ⟨g2, rfl, hy2, hb2⟩
        clear hcell1
        go_wp2_with fail
        refine (putText_made s Lb nb _ (by omega) HPB.out HLB.out).mono ?_
        rintro e w3 ⟨g3, rfl, hy3, hb3⟩
        have h12 := hb1.trans (hb2.mono hb1.size)
        have h13 := h12.trans (hb3.mono h12.size)
        go_wp2_with fail
        refine (putInts_made _ cap l.length l Lc nc _ ((HI.out.below h13).more h13.size) H64.out rfl (by omega) HPC.out HLC.out).mono ?_
        rintro e w4 ⟨g4, rfl, hy4, hb4⟩
        have h14 := h13.trans (hb4.mono h13.size)
        have h34 := (hy3.below hb4).more hb4.size
        have h23 := (hy2.below hb3).more hb3.size
        have h24 := (h23.below hb4).more hb4.size
        have HYA := Lib.hid h24
        have HYB := Lib.hid h34
        have HYC := Lib.hid hy4
        have HBEL := Lib.hid h14
        have HB := Lib.hid (Below.refl w4.heap.size w4)
        clear hb1 hb2 hb3 hb4 h12 h13 h14 hy2 hy3 hy4 h34 h23 h24 HI H64 HPA HPB HPC hx0
        by_cases hna : c < na
        · by_cases hnb : c < nb
          · by_cases hnc : c < nc
            · have hltna : (c : Int) < (na : Int) := by omega
              have hlena : (c : Int) ≤ (na : Int) := by omega
              have hdlna : decide (c < na) = true := decide_eq_true (by omega)
              have hltnb : (c : Int) < (nb : Int) := by omega
              have hlenb : (c : Int) ≤ (nb : Int) := by omega
              have hdlnb : decide (c < nb) = true := decide_eq_true (by omega)
              have hltnc : (c : Int) < (nc : Int) := by omega
              have hlenc : (c : Int) ≤ (nc : Int) := by omega
              have hdlnc : decide (c < nc) = true := decide_eq_true (by omega)
              go_wp2_with fail
              refine (int_at _ na c (La.take c) (0, 0, 7) _ (((HYA.out.below HB.out).more HB.out.size).take c) (byt_take HBA.out c) (by rw [List.length_take]; have := HLA.out; omega) (by omega) (HCA.out c (by have := HLA.out; omega))).mono ?_
              rintro e w8 ⟨rfl, hb8⟩
              have hB8 := HB.out.trans (hb8.mono HB.out.size)
              clear HB hb8
              have HB := Lib.hid hB8
              clear hB8
              go_wp2_with fail
              refine (text_at _ nb c (Lb.take c) 300 ⟨#[]⟩ 0 7 _ (((HYB.out.below HB.out).more HB.out.size).take c) (byt_take HBB.out c) (by rw [List.length_take]; have := HLB.out; omega) (by omega) (by omega) (by rw [HCB.out c (by have := HLB.out; omega)]; rfl) (by rw [HCB.out c (by have := HLB.out; omega)]) (by rw [HCB.out c (by have := HLB.out; omega)])).mono ?_
              rintro e w8 ⟨rfl, hb8⟩
              have hB8 := HB.out.trans (hb8.mono HB.out.size)
              clear HB hb8
              have HB := Lib.hid hB8
              clear hB8
              go_wp2_with fail
              refine (ints_at _ nc c (Lc.take c) 300 ([], 0, 7) _ (((HYC.out.below HB.out).more HB.out.size).take c) (byt_take HBC.out c) (by rw [List.length_take]; have := HLC.out; omega) (by omega) (by omega) (HCC.out c (by have := HLC.out; omega))).mono ?_
              rintro e w8 ⟨A8, cap8, rfl, ho8, hb8⟩
              have hB8 := HB.out.trans (hb8.mono HB.out.size)
              clear HB hb8
              have HB := Lib.hid hB8
              clear hB8
              have hn1 : (0 : Int) < (na : Int) := by omega
              have hn2 : (s.size : Int) < (nb : Int) := by omega
              have hn3 : (l.length : Int) < (nc : Int) := by omega
              have hd1 : decide (0 < na) = true := decide_eq_true (by omega)
              have hd2 : decide (s.size < nb) = true := decide_eq_true (by omega)
              have hd3 : decide (l.length < nc) = true := decide_eq_true (by omega)
              clear HYA HYB HYC
              go_wp2_with fail
              refine (awake_any _).mono ?_
              rintro e w9 ⟨rfl, hb9⟩
              go_wp2_with fail
              go_ret
              exact ⟨rfl, HBEL.out.trans ((HB.out.trans (hb9.mono HB.out.size)).mono HBEL.out.size)⟩
            · have hltna : (c : Int) < (na : Int) := by omega
              have hlena : (c : Int) ≤ (na : Int) := by omega
              have hdlna : decide (c < na) = true := decide_eq_true (by omega)
              have hltnb : (c : Int) < (nb : Int) := by omega
              have hlenb : (c : Int) ≤ (nb : Int) := by omega
              have hdlnb : decide (c < nb) = true := decide_eq_true (by omega)
              have hgenc : ¬ (c : Int) < (nc : Int) := by omega
              have hlenc : (nc : Int) ≤ (c : Int) := by omega
              have hdlnc : decide (c < nc) = false := decide_eq_false (by omega)
              go_wp2_with fail
              refine (int_at _ na c (La.take c) (0, 0, 7) _ (((HYA.out.below HB.out).more HB.out.size).take c) (byt_take HBA.out c) (by rw [List.length_take]; have := HLA.out; omega) (by omega) (HCA.out c (by have := HLA.out; omega))).mono ?_
              rintro e w8 ⟨rfl, hb8⟩
              have hB8 := HB.out.trans (hb8.mono HB.out.size)
              clear HB hb8
              have HB := Lib.hid hB8
              clear hB8
              go_wp2_with fail
              refine (text_at _ nb c (Lb.take c) 300 ⟨#[]⟩ 0 7 _ (((HYB.out.below HB.out).more HB.out.size).take c) (byt_take HBB.out c) (by rw [List.length_take]; have := HLB.out; omega) (by omega) (by omega) (by rw [HCB.out c (by have := HLB.out; omega)]; rfl) (by rw [HCB.out c (by have := HLB.out; omega)]) (by rw [HCB.out c (by have := HLB.out; omega)])).mono ?_
              rintro e w8 ⟨rfl, hb8⟩
              have hB8 := HB.out.trans (hb8.mono HB.out.size)
              clear HB hb8
              have HB := Lib.hid hB8
              clear hB8
              have hn1 : (0 : Int) < (na : Int) := by omega
              have hn2 : (s.size : Int) < (nb : Int) := by omega
              have hn3 : (l.length : Int) < (nc : Int) := by omega
              have hd1 : decide (0 < na) = true := decide_eq_true (by omega)
              have hd2 : decide (s.size < nb) = true := decide_eq_true (by omega)
              have hd3 : decide (l.length < nc) = true := decide_eq_true (by omega)
              clear HYA HYB HYC
              go_wp2_with fail
              refine (awake_any _).mono ?_
              rintro e w9 ⟨rfl, hb9⟩
              go_wp2_with fail
              go_ret
              exact ⟨rfl, HBEL.out.trans ((HB.out.trans (hb9.mono HB.out.size)).mono HBEL.out.size)⟩
          · by_cases hnc : c < nc
            · have hltna : (c : Int) < (na : Int) := by omega
              have hlena : (c : Int) ≤ (na : Int) := by omega
              have hdlna : decide (c < na) = true := decide_eq_true (by omega)
              have hgenb : ¬ (c : Int) < (nb : Int) := by omega
              have hlenb : (nb : Int) ≤ (c : Int) := by omega
              have hdlnb : decide (c < nb) = false := decide_eq_false (by omega)
              have hltnc : (c : Int) < (nc : Int) := by omega
              have hlenc : (c : Int) ≤ (nc : Int) := by omega
              have hdlnc : decide (c < nc) = true := decide_eq_true (by omega)
              go_wp2_with fail
              refine (int_at _ na c (La.take c) (0, 0, 7) _ (((HYA.out.below HB.out).more HB.out.size).take c) (byt_take HBA.out c) (by rw [List.length_take]; have := HLA.out; omega) (by omega) (HCA.out c (by have := HLA.out; omega))).mono ?_
              rintro e w8 ⟨rfl, hb8⟩
              have hB8 := HB.out.trans (hb8.mono HB.out.size)
              clear HB hb8
              have HB := Lib.hid hB8
              clear hB8
              go_wp2_with fail
              refine (ints_at _ nc c (Lc.take c) 300 ([], 0, 7) _ (((HYC.out.below HB.out).more HB.out.size).take c) (byt_take HBC.out c) (by rw [List.length_take]; have := HLC.out; omega) (by omega) (by omega) (HCC.out c (by have := HLC.out; omega))).mono ?_
              rintro e w8 ⟨A8, cap8, rfl, ho8, hb8⟩
              have hB8 := HB.out.trans (hb8.mono HB.out.size)
              clear HB hb8
              have HB := Lib.hid hB8
              clear hB8
              have hn1 : (0 : Int) < (na : Int) := by omega
              have hn2 : (s.size : Int) < (nb : Int) := by omega
              have hn3 : (l.length : Int) < (nc : Int) := by omega
              have hd1 : decide (0 < na) = true := decide_eq_true (by omega)
              have hd2 : decide (s.size < nb) = true := decide_eq_true (by omega)
              have hd3 : decide (l.length < nc) = true := decide_eq_true (by omega)
              clear HYA HYB HYC
              go_wp2_with fail
              refine (awake_any _).mono ?_
              rintro e w9 ⟨rfl, hb9⟩
              go_wp2_with fail
              go_ret
              exact ⟨rfl, HBEL.out.trans ((HB.out.trans (hb9.mono HB.out.size)).mono HBEL.out.size)⟩
            · have hltna : (c : Int) < (na : Int) := by omega
              have hlena : (c : Int) ≤ (na : Int) := by omega
              have hdlna : decide (c < na) = true := decide_eq_true (by omega)
              have hgenb : ¬ (c : Int) < (nb : Int) := by omega
              have hlenb : (nb : Int) ≤ (c : Int) := by omega
              have hdlnb : decide (c < nb) = false := decide_eq_false (by omega)
              have hgenc : ¬ (c : Int) < (nc : Int) := by omega
              have hlenc : (nc : Int) ≤ (c : Int) := by omega
              have hdlnc : decide (c < nc) = false := decide_eq_false (by omega)
              go_wp2_with fail
              refine (int_at _ na c (La.take c) (0, 0, 7) _ (((HYA.out.below HB.out).more HB.out.size).take c) (byt_take HBA.out c) (by rw [List.length_take]; have := HLA.out; omega) (by omega) (HCA.out c (by have := HLA.out; omega))).mono ?_
              rintro e w8 ⟨rfl, hb8⟩
              have hB8 := HB.out.trans (hb8.mono HB.out.size)
              clear HB hb8
              have HB := Lib.hid hB8
              clear hB8
              have hn1 : (0 : Int) < (na : Int) := by omega
              have hn2 : (s.size : Int) < (nb : Int) := by omega
              have hn3 : (l.length : Int) < (nc : Int) := by omega
              have hd1 : decide (0 < na) = true := decide_eq_true (by omega)
              have hd2 : decide (s.size < nb) = true := decide_eq_true (by omega)
              have hd3 : decide (l.length < nc) = true := decide_eq_true (by omega)
              clear HYA HYB HYC
              go_wp2_with fail
              refine (awake_any _).mono ?_
              rintro e w9 ⟨rfl, hb9⟩
              go_wp2_with fail
              go_ret
              exact ⟨rfl, HBEL.out.trans ((HB.out.trans (hb9.mono HB.out.size)).mono HBEL.out.size)⟩
        · by_cases hnb : c < nb
          · by_cases hnc : c < nc
            · have hgena : ¬ (c : Int) < (na : Int) := by omega
              have hlena : (na : Int) ≤ (c : Int) := by omega
              have hdlna : decide (c < na) = false := decide_eq_false (by omega)
              have hltnb : (c : Int) < (nb : Int) := by omega
              have hlenb : (c : Int) ≤ (nb : Int) := by omega
              have hdlnb : decide (c < nb) = true := decide_eq_true (by omega)
              have hltnc : (c : Int) < (nc : Int) := by omega
              have hlenc : (c : Int) ≤ (nc : Int) := by omega
              have hdlnc : decide (c < nc) = true := decide_eq_true (by omega)
              go_wp2_with fail
              refine (text_at _ nb c (Lb.take c) 300 ⟨#[]⟩ 0 7 _ (((HYB.out.below HB.out).more HB.out.size).take c) (byt_take HBB.out c) (by rw [List.length_take]; have := HLB.out; omega) (by omega) (by omega) (by rw [HCB.out c (by have := HLB.out; omega)]; rfl) (by rw [HCB.out c (by have := HLB.out; omega)]) (by rw [HCB.out c (by have := HLB.out; omega)])).mono ?_
              rintro e w8 ⟨rfl, hb8⟩
              have hB8 := HB.out.trans (hb8.mono HB.out.size)
              clear HB hb8
              have HB := Lib.hid hB8
              clear hB8
              go_wp2_with fail
              refine (ints_at _ nc c (Lc.take c) 300 ([], 0, 7) _ (((HYC.out.below HB.out).more HB.out.size).take c) (byt_take HBC.out c) (by rw [List.length_take]; have := HLC.out; omega) (by omega) (by omega) (HCC.out c (by have := HLC.out; omega))).mono ?_
              rintro e w8 ⟨A8, cap8, rfl, ho8, hb8⟩
              have hB8 := HB.out.trans (hb8.mono HB.out.size)
              clear HB hb8
              have HB := Lib.hid hB8
              clear hB8
              have hn1 : (0 : Int) < (na : Int) := by omega
              have hn2 : (s.size : Int) < (nb : Int) := by omega
              have hn3 : (l.length : Int) < (nc : Int) := by omega
              have hd1 : decide (0 < na) = true := decide_eq_true (by omega)
              have hd2 : decide (s.size < nb) = true := decide_eq_true (by omega)
              have hd3 : decide (l.length < nc) = true := decide_eq_true (by omega)
              clear HYA HYB HYC
              go_wp2_with fail
              refine (awake_any _).mono ?_
              rintro e w9 ⟨rfl, hb9⟩
              go_wp2_with fail
              go_ret
              exact ⟨rfl, HBEL.out.trans ((HB.out.trans (hb9.mono HB.out.size)).mono HBEL.out.size)⟩
            · have hgena : ¬ (c : Int) < (na : Int) := by omega
              have hlena : (na : Int) ≤ (c : Int) := by omega
              have hdlna : decide (c < na) = false := decide_eq_false (by omega)
              have hltnb : (c : Int) < (nb : Int) := by omega
              have hlenb : (c : Int) ≤ (nb : Int) := by omega
              have hdlnb : decide (c < nb) = true := decide_eq_true (by omega)
              have hgenc : ¬ (c : Int) < (nc : Int) := by omega
              have hlenc : (nc : Int) ≤ (c : Int) := by omega
              have hdlnc : decide (c < nc) = false := decide_eq_false (by omega)
              go_wp2_with fail
              refine (text_at _ nb c (Lb.take c) 300 ⟨#[]⟩ 0 7 _ (((HYB.out.below HB.out).more HB.out.size).take c) (byt_take HBB.out c) (by rw [List.length_take]; have := HLB.out; omega) (by omega) (by omega) (by rw [HCB.out c (by have := HLB.out; omega)]; rfl) (by rw [HCB.out c (by have := HLB.out; omega)]) (by rw [HCB.out c (by have := HLB.out; omega)])).mono ?_
              rintro e w8 ⟨rfl, hb8⟩
              have hB8 := HB.out.trans (hb8.mono HB.out.size)
              clear HB hb8
              have HB := Lib.hid hB8
              clear hB8
              have hn1 : (0 : Int) < (na : Int) := by omega
              have hn2 : (s.size : Int) < (nb : Int) := by omega
              have hn3 : (l.length : Int) < (nc : Int) := by omega
              have hd1 : decide (0 < na) = true := decide_eq_true (by omega)
              have hd2 : decide (s.size < nb) = true := decide_eq_true (by omega)
              have hd3 : decide (l.length < nc) = true := decide_eq_true (by omega)
              clear HYA HYB HYC
              go_wp2_with fail
              refine (awake_any _).mono ?_
              rintro e w9 ⟨rfl, hb9⟩
              go_wp2_with fail
              go_ret
              exact ⟨rfl, HBEL.out.trans ((HB.out.trans (hb9.mono HB.out.size)).mono HBEL.out.size)⟩
          · by_cases hnc : c < nc
            · have hgena : ¬ (c : Int) < (na : Int) := by omega
              have hlena : (na : Int) ≤ (c : Int) := by omega
              have hdlna : decide (c < na) = false := decide_eq_false (by omega)
              have hgenb : ¬ (c : Int) < (nb : Int) := by omega
              have hlenb : (nb : Int) ≤ (c : Int) := by omega
              have hdlnb : decide (c < nb) = false := decide_eq_false (by omega)
              have hltnc : (c : Int) < (nc : Int) := by omega
              have hlenc : (c : Int) ≤ (nc : Int) := by omega
              have hdlnc : decide (c < nc) = true := decide_eq_true (by omega)
              go_wp2_with fail
              refine (ints_at _ nc c (Lc.take c) 300 ([], 0, 7) _ (((HYC.out.below HB.out).more HB.out.size).take c) (byt_take HBC.out c) (by rw [List.length_take]; have := HLC.out; omega) (by omega) (by omega) (HCC.out c (by have := HLC.out; omega))).mono ?_
              rintro e w8 ⟨A8, cap8, rfl, ho8, hb8⟩
              have hB8 := HB.out.trans (hb8.mono HB.out.size)
              clear HB hb8
              have HB := Lib.hid hB8
              clear hB8
              have hn1 : (0 : Int) < (na : Int) := by omega
              have hn2 : (s.size : Int) < (nb : Int) := by omega
              have hn3 : (l.length : Int) < (nc : Int) := by omega
              have hd1 : decide (0 < na) = true := decide_eq_true (by omega)
              have hd2 : decide (s.size < nb) = true := decide_eq_true (by omega)
              have hd3 : decide (l.length < nc) = true := decide_eq_true (by omega)
              clear HYA HYB HYC
              go_wp2_with fail
              refine (awake_any _).mono ?_
              rintro e w9 ⟨rfl, hb9⟩
              go_wp2_with fail
              go_ret
              exact ⟨rfl, HBEL.out.trans ((HB.out.trans (hb9.mono HB.out.size)).mono HBEL.out.size)⟩
            · have hgena : ¬ (c : Int) < (na : Int) := by omega
              have hlena : (na : Int) ≤ (c : Int) := by omega
              have hdlna : decide (c < na) = false := decide_eq_false (by omega)
              have hgenb : ¬ (c : Int) < (nb : Int) := by omega
              have hlenb : (nb : Int) ≤ (c : Int) := by omega
              have hdlnb : decide (c < nb) = false := decide_eq_false (by omega)
              have hgenc : ¬ (c : Int) < (nc : Int) := by omega
              have hlenc : (nc : Int) ≤ (c : Int) := by omega
              have hdlnc : decide (c < nc) = false := decide_eq_false (by omega)
              have hn1 : (0 : Int) < (na : Int) := by omega
              have hn2 : (s.size : Int) < (nb : Int) := by omega
              have hn3 : (l.length : Int) < (nc : Int) := by omega
              have hd1 : decide (0 < na) = true := decide_eq_true (by omega)
              have hd2 : decide (s.size < nb) = true := decide_eq_true (by omega)
              have hd3 : decide (l.length < nc) = true := decide_eq_true (by omega)
              clear HYA HYB HYC
              go_wp2_with fail
              refine (awake_any _).mono ?_
              rintro e w9 ⟨rfl, hb9⟩
              go_wp2_with fail
              go_ret
              exact ⟨rfl, HBEL.out.trans ((HB.out.trans (hb9.mono HB.out.size)).mono HBEL.out.size)⟩
end Go.Proofs.Ytelanbiedfldgaa
