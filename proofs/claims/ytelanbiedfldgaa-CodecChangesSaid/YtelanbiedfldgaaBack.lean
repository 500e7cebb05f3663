/- The walk of the statement CodecBack. -/
import Derived.Test.YtelanbiedfldgaaGrow
namespace Go.Proofs.Ytelanbiedfldgaa
open Go.RowKit

theorem byts_after {w w' : World} {A : Option Addr} {l : List Nat} (h : Byts w w.heap.size A l) (hb : Below w.heap.size w w') : Byts w' w'.heap.size A l := (h.below hb).more hb.size
theorem below_new (w : World) (o : Obj) : Below w.heap.size w (w.alloc o) := (Below.refl _ _).alloc (Nat.le_refl _) _

set_option maxRecDepth 100000 in
set_option maxHeartbeats 4000000 in
theorem back_any (n : Int) (hn1 : -9223372036854775808 ≤ n) (hn2 : n ≤ 9223372036854775807) (s : ByteArray) (A : Option Addr) (cap : Nat) (l : List Int) (A3 : Option Addr) (cap3 : Nat) (more : List Nat) (w : World)
    (hi : Ints w w.heap.size A l) (h64 : I64 l) (hs : s.size ≤ maxLen) (hl : l.length ≤ maxLen) (hy : Byts w w.heap.size A3 more) (hY : Cd.Byt more) (h0 : A3 = none → more = [] ∧ cap3 = 0) (hm : more.length ≤ maxLen) :
    Calls Try.prog 9 #[.int .i64 n, .string s, .slice A l.length cap, .slice A3 more.length cap3] w fun e w' => e = .returned (.bool true) ∧ Below w.heap.size w w' := by
  unfold maxLen at hs hl hm
  by_cases hfew : ¬ (more.length ≤ 300 ∧ s.size ≤ 300 ∧ l.length ≤ 300)
  · go_enter Try.func9, Try.ntmps9
    go_wp2_with fail
    refine (few_on A3 A more.length cap3 l.length cap s false _ (by simp; omega)).mono ?_
    rintro e w1 ⟨rfl, hb1⟩
    go_wp2_with fail
    refine (awake_any _).mono ?_
    rintro e w2 ⟨rfl, hb2⟩
    go_wp2_with fail
    go_ret
    exact ⟨rfl, hb1.trans (hb2.mono hb1.size)⟩
  · have hf0 : more.length ≤ 300 := by omega
    have hf1 : s.size ≤ 300 := by omega
    have hf2 : l.length ≤ 300 := by omega
    have HF := Lib.hid (show (decide (more.length ≤ 300) && (decide (s.size ≤ 300) && decide (l.length ≤ 300))) = true by simp [hf0, hf1, hf2])
    clear hfew
    have HI := Lib.hid hi
    have H64 := Lib.hid h64
    have HY := Lib.hid hy
    have HYB := Lib.hid hY
    have H0 := Lib.hid h0
    clear hi h64 hy hY h0
    -- the three encodings
    have hLA0 := enc_pos (Cd.num n)
    have hLA1 := enc_len (Cd.num n)
    have hA := Cd.dec_enc (Cd.num n) more (Cd.num_lt hn1 hn2)
    rw [Cd.unz_num] at hA
    obtain ⟨La, hLa⟩ : ∃ La, Cd.enc (Cd.num n) = La := ⟨_, rfl⟩
    have HBA := Lib.hid (show Cd.Byt (La ++ more) by rw [← hLa]; exact Cd.byt_append (Cd.enc_byt _) HYB.out)
    rw [hLa] at hLA0 hLA1 hA
    have HPA := Lib.hid hLa
    clear hLa
    obtain ⟨na, hna⟩ : ∃ na, La.length = na := ⟨_, rfl⟩
    rw [hna] at hLA0 hLA1 hA
    have HLA := Lib.hid hna
    clear hna
    obtain ⟨Ra, hRa⟩ : ∃ Ra, La ++ more = Ra := ⟨_, rfl⟩
    have hRal : Ra.length = na + more.length := by rw [← hRa, List.length_append, HLA.out]
    rw [hRa] at hA HBA
    have HA := Lib.hid hA
    have HRA := Lib.hid hRa
    have HRAL := Lib.hid hRal
    clear hA hRa hRal
    have hsl := sb_len s
    have hLB0 : 0 < (Cd.enc (Cd.num s.size) ++ sb s).length := by rw [List.length_append]; have := enc_pos (Cd.num s.size); omega
    have hLB1 : (Cd.enc (Cd.num s.size) ++ sb s).length ≤ 1000 := by rw [List.length_append, hsl]; have := enc_len (Cd.num s.size); omega
    have hB1 : Cd.textL ((Cd.enc (Cd.num s.size) ++ sb s) ++ more) (s.size : Int) = (sb s, (((Cd.enc (Cd.num s.size) ++ sb s).length : Nat) : Int), 0) := by
      rw [← hsl]; exact Cd.text_back (by omega) (Int.le_refl _)
    have hB2 : Cd.textL (Cd.enc (Cd.num s.size) ++ sb s) ((s.size : Int) - 1) = ([], 0, 6) := by
      rw [← hsl]; exact Cd.text_long (by omega) (by omega)
    obtain ⟨Lb, hLb⟩ : ∃ Lb, Cd.enc (Cd.num s.size) ++ sb s = Lb := ⟨_, rfl⟩
    have HBB0 := Lib.hid (show Cd.Byt Lb by rw [← hLb]; exact Cd.byt_append (Cd.enc_byt _) (sb_byt s))
    rw [hLb] at hLB0 hLB1 hB1 hB2
    have HPB := Lib.hid hLb
    clear hLb hsl
    obtain ⟨nb, hnb⟩ : ∃ nb, Lb.length = nb := ⟨_, rfl⟩
    rw [hnb] at hLB0 hLB1 hB1
    have HLB := Lib.hid hnb
    clear hnb
    obtain ⟨Rb, hRb⟩ : ∃ Rb, Lb ++ more = Rb := ⟨_, rfl⟩
    have hRbl : Rb.length = nb + more.length := by rw [← hRb, List.length_append, HLB.out]
    have HBB := Lib.hid (show Cd.Byt Rb by rw [← hRb]; exact Cd.byt_append HBB0.out HYB.out)
    rw [hRb] at hB1
    have HB1 := Lib.hid hB1
    have HB2 := Lib.hid hB2
    have HRB := Lib.hid hRb
    have HRBL := Lib.hid hRbl
    clear hB1 hB2 hRb hRbl
    have hLC0 : 0 < (Cd.enc (Cd.num l.length) ++ Cd.encs l).length := by rw [List.length_append]; have := enc_pos (Cd.num l.length); omega
    have hLC1 : (Cd.enc (Cd.num l.length) ++ Cd.encs l).length ≤ 4000 := by rw [List.length_append]; have := enc_len (Cd.num l.length); have := cencs_len l; omega
    have hC1 : Cd.intsL ((Cd.enc (Cd.num l.length) ++ Cd.encs l) ++ more) (l.length : Int) = (l, (((Cd.enc (Cd.num l.length) ++ Cd.encs l).length : Nat) : Int), 0) := Cd.ints_back (by omega) H64.out (Int.le_refl _)
    have hC2 : Cd.intsL (Cd.enc (Cd.num l.length) ++ Cd.encs l) ((l.length : Int) - 1) = ([], 0, 6) := Cd.ints_long (by omega) (by omega)
    obtain ⟨Lc, hLc⟩ : ∃ Lc, Cd.enc (Cd.num l.length) ++ Cd.encs l = Lc := ⟨_, rfl⟩
    have HBC0 := Lib.hid (show Cd.Byt Lc by rw [← hLc]; exact Cd.byt_append (Cd.enc_byt _) (Cd.encs_byt l))
    rw [hLc] at hLC0 hLC1 hC1 hC2
    have HPC := Lib.hid hLc
    clear hLc
    obtain ⟨nc, hnc⟩ : ∃ nc, Lc.length = nc := ⟨_, rfl⟩
    rw [hnc] at hLC0 hLC1 hC1
    have HLC := Lib.hid hnc
    clear hnc
    obtain ⟨Rc, hRc⟩ : ∃ Rc, Lc ++ more = Rc := ⟨_, rfl⟩
    have hRcl : Rc.length = nc + more.length := by rw [← hRc, List.length_append, HLC.out]
    have HBC := Lib.hid (show Cd.Byt Rc by rw [← hRc]; exact Cd.byt_append HBC0.out HYB.out)
    rw [hRc] at hC1
    have HC1 := Lib.hid hC1
    have HC2 := Lib.hid hC2
    have HRC := Lib.hid hRc
    have HRCL := Lib.hid hRcl
    clear hC1 hC2 hRc hRcl
    obtain ⟨k, hk⟩ : ∃ k, more.length = k := ⟨_, rfl⟩
    rw [hk] at hf0 HF HRAL HRBL HRCL ⊢
    have HK := Lib.hid hk
    clear hk hm
    -- the tests
    have t1 : (n != n) = false := by simp
    have t2 : ((na : Int) != (na : Int)) = false := by simp
    have t3 : decide ((na : Int) < 1) = false := decide_eq_false (by omega)
    have t4 : decide (10 < (na : Int)) = false := decide_eq_false (by omega)
    have t6 : ((nb : Int) != (nb : Int)) = false := by simp
    have t7 : ((nc : Int) != (nc : Int)) = false := by simp
    have t8 : IntKind.i64.wrap ((s.size : Int) - 1) = (s.size : Int) - 1 := IntWalk.i64_in _ ⟨by omega, by omega⟩
    have t9 : IntKind.i64.wrap ((l.length : Int) - 1) = (l.length : Int) - 1 := IntWalk.i64_in _ ⟨by omega, by omega⟩
    go_enter Try.func9, Try.ntmps9
    go_wp2_with fail
    refine (few_on A3 A k cap3 l.length cap s true _ HF.out).mono ?_
    rintro e w1 ⟨rfl, hb1⟩
    go_wp2_with fail
    refine (putInt_made n La na hn1 hn2 _ HPA.out HLA.out).mono ?_
    rintro e w2 ⟨g2, rfl, hy2, hb2⟩
    go_wp2_with fail
    refine (putText_made s Lb nb _ (by omega) HPB.out HLB.out).mono ?_
    rintro e w3 ⟨g3, rfl, hy3, hb3⟩
    have h12 := hb1.trans (hb2.mono hb1.size)
    have h13 := h12.trans (hb3.mono h12.size)
    go_wp2_with fail
    refine (putInts_made A cap l.length l Lc nc _ ((HI.out.below h13).more h13.size) H64.out rfl (by omega) HPC.out HLC.out).mono ?_
    rintro e w4 ⟨g4, rfl, hy4, hb4⟩
    have h14 := h13.trans (hb4.mono h13.size)
    have HYA := Lib.hid (byts_after (byts_after hy2 hb3) hb4)
    have HYX := Lib.hid (byts_after hy3 hb4)
    have HYC := Lib.hid hy4
    have HYM := Lib.hid (byts_after HY.out h14)
    have HBEL := Lib.hid h14
    have HIB := Lib.hid ((HI.out.below h14).more h14.size)
    clear hb1 hb2 hb3 hb4 h12 h13 h14 hy2 hy3 hy4 HY HI
    go_wp2_with (first
      | (at_builtin; refine wpList_append_bytes rfl (.tmp 40) (.tmp 41) rfl w4.heap.size _ _ 0 [] rfl rfl (OwnY.new w4) _ na na La rfl HLA.out (byts_after HYA.out (below_new w4 _)) (fun e => by cases e) La na rfl HLA.out (by omega) (below_new w4 _).size ?_; intro A11 cap11 w11 ho11 hb11; have hz11 := (below_new w4 _).trans hb11)
      | (at_builtin; refine wpList_append_bytes rfl (.tmp 42) (.tmp 43) rfl w4.heap.size _ _ na La rfl HLA.out ho11 _ k cap3 more rfl HK.out (byts_after HYM.out hz11) H0.out Ra (na + k) HRA.out HRAL.out (by omega) hz11.size ?_; intro A12 cap12 w12 ho12 hb12; have hz12 := hz11.trans hb12))
    refine (int_at A12 cap12 (na + k) Ra (n, (na : Int), 0) w12 ho12.byts HBA.out HRAL.out (by omega) HA.out).mono ?_
    rintro e w13 ⟨rfl, hb13⟩
    have hst13 := hz12.trans (hb13.mono hz12.size)
    have HS13 := Lib.hid (HBEL.out.trans (hst13.mono HBEL.out.size))
    have HYX13 := Lib.hid (byts_after HYX.out hst13)
    have HYC13 := Lib.hid (byts_after HYC.out hst13)
    have HYM13 := Lib.hid (byts_after HYM.out hst13)
    have HIB13 := Lib.hid ((HIB.out.below hst13).more hst13.size)
    clear hst13 hb13 hb12 hb11 hz11 hz12 ho11 HBEL HYX HYC HYM HIB
    have HBEL := HS13
    have HYX := HYX13
    have HYC := HYC13
    have HYM := HYM13
    have HIB := HIB13
    clear HS13 HYX13 HYC13 HYM13 HIB13
    go_wp2_with (first
      | (at_builtin; refine wpList_append_bytes rfl (.tmp 71) (.tmp 72) rfl w13.heap.size _ _ 0 [] rfl rfl (OwnY.new w13) _ nb nb Lb rfl HLB.out (byts_after HYX.out (below_new w13 _)) (fun e => by cases e) Lb nb rfl HLB.out (by omega) (below_new w13 _).size ?_; intro A21 cap21 w21 ho21 hb21; have hz21 := (below_new w13 _).trans hb21)
      | (at_builtin; refine wpList_append_bytes rfl (.tmp 73) (.tmp 74) rfl w13.heap.size _ _ nb Lb rfl HLB.out ho21 _ k cap3 more rfl HK.out (byts_after HYM.out hz21) H0.out Rb (nb + k) HRB.out HRBL.out (by omega) hz21.size ?_; intro A22 cap22 w22 ho22 hb22; have hz22 := hz21.trans hb22))
    refine (text_at A22 cap22 (nb + k) Rb (s.size : Int) s (nb : Int) 0 w22 ho22.byts HBB.out HRBL.out (by omega) (by have := ho22.cap; have := HRBL.out; omega) (by rw [HB1.out]; exact strOf_sb s) (by rw [HB1.out]) (by rw [HB1.out])).mono ?_
    rintro e w23 ⟨rfl, hb23⟩
    have hst23 := hz22.trans (hb23.mono hz22.size)
    have HS23 := Lib.hid (HBEL.out.trans (hst23.mono HBEL.out.size))
    have HYX23 := Lib.hid (byts_after HYX.out hst23)
    have HYC23 := Lib.hid (byts_after HYC.out hst23)
    have HYM23 := Lib.hid (byts_after HYM.out hst23)
    have HIB23 := Lib.hid ((HIB.out.below hst23).more hst23.size)
    clear hst23 hb23 hb22 hb21 hz21 hz22 ho21 HBEL HYX HYC HYM HIB
    have HBEL := HS23
    have HYX := HYX23
    have HYC := HYC23
    have HYM := HYM23
    have HIB := HIB23
    clear HS23 HYX23 HYC23 HYM23 HIB23
    go_wp2_with (first
      | (at_builtin; refine wpList_append_bytes rfl (.tmp 83) (.tmp 84) rfl w23.heap.size _ _ 0 [] rfl rfl (OwnY.new w23) _ nc nc Lc rfl HLC.out (byts_after HYC.out (below_new w23 _)) (fun e => by cases e) Lc nc rfl HLC.out (by omega) (below_new w23 _).size ?_; intro A31 cap31 w31 ho31 hb31; have hz31 := (below_new w23 _).trans hb31)
      | (at_builtin; refine wpList_append_bytes rfl (.tmp 85) (.tmp 86) rfl w23.heap.size _ _ nc Lc rfl HLC.out ho31 _ k cap3 more rfl HK.out (byts_after HYM.out hz31) H0.out Rc (nc + k) HRC.out HRCL.out (by omega) hz31.size ?_; intro A32 cap32 w32 ho32 hb32; have hz32 := hz31.trans hb32))
    refine (ints_at A32 cap32 (nc + k) Rc (l.length : Int) (l, (nc : Int), 0) w32 ho32.byts HBC.out HRCL.out (by omega) (by have := ho32.cap; have := HRCL.out; omega) HC1.out).mono ?_
    rintro e w33 ⟨A9, cap9, rfl, ho9, hb33⟩
    have hst33 := hz32.trans (hb33.mono hz32.size)
    have HS33 := Lib.hid (HBEL.out.trans (hst33.mono HBEL.out.size))
    have HYX33 := Lib.hid (byts_after HYX.out hst33)
    have HYC33 := Lib.hid (byts_after HYC.out hst33)
    have HYM33 := Lib.hid (byts_after HYM.out hst33)
    have HIB33 := Lib.hid ((HIB.out.below hst33).more hst33.size)
    clear hst33 hb33 hb32 hb31 hz31 hz32 ho31 HBEL HYX HYC HYM HIB
    have HBEL := HS33
    have HYX := HYX33
    have HYC := HYC33
    have HYM := HYM33
    have HIB := HIB33
    clear HS33 HYX33 HYC33 HYM33 HIB33
    have HOL := Lib.hid ho9.ints
    clear ho9
    go_wp2_with fail
    refine (same_is A9 A cap9 cap l l l.length l.length true w33 HOL.out HIB.out rfl rfl (by omega) (by simp)).mono ?_
    rintro e w41 ⟨rfl, hb41⟩
    have HBEL2 := Lib.hid (HBEL.out.trans (hb41.mono HBEL.out.size))
    have HYX2 := Lib.hid (byts_after HYX.out hb41)
    have HYC2 := Lib.hid (byts_after HYC.out hb41)
    clear HBEL HYX HYC HOL HIB HYM hb41
    go_wp2_with fail
    refine (text_at _ nb nb Lb ((s.size : Int) - 1) ⟨#[]⟩ 0 6 w41 HYX2.out HBB0.out HLB.out (by omega) (Nat.le_refl _) (by rw [HB2.out]; rfl) (by rw [HB2.out]) (by rw [HB2.out])).mono ?_
    rintro e w42 ⟨rfl, hb42⟩
    have HBEL3 := Lib.hid (HBEL2.out.trans (hb42.mono HBEL2.out.size))
    have HYC3 := Lib.hid (byts_after HYC2.out hb42)
    clear HBEL2 HYX2 HYC2 hb42
    go_wp2_with fail
    refine (ints_at _ nc nc Lc ((l.length : Int) - 1) ([], 0, 6) w42 HYC3.out HBC0.out HLC.out (by omega) (Nat.le_refl _) HC2.out).mono ?_
    rintro e w43 ⟨A10, cap10, rfl, ho10, hb43⟩
    have HBEL4 := Lib.hid (HBEL3.out.trans (hb43.mono HBEL3.out.size))
    clear HBEL3 HYC3 hb43 ho10
    go_wp2_with fail
    refine (awake_any _).mono ?_
    rintro e w44 ⟨rfl, hb44⟩
    go_wp2_with fail
    go_ret
    exact ⟨rfl, HBEL4.out.trans (hb44.mono HBEL4.out.size)⟩
end Go.Proofs.Ytelanbiedfldgaa
