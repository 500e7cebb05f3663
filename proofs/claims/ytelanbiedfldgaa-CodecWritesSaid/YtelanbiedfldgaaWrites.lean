/- The walk of the statement CodecWrites. -/
import Derived.Test.YtelanbiedfldgaaRefQ
import Derived.Test.YtelanbiedfldgaaHeld
namespace Go.Proofs.Ytelanbiedfldgaa
open Go.RowKit

theorem tobytes_facts (W : World) (s : ByteArray) : (∀ {l : List Nat}, sb s = l → Byts (Lib.bytesWorld W 5 s) (Lib.bytesWorld W 5 s).heap.size (some ⟨W.heap.size, 0, none⟩) l) ∧ s.size ≤ grownCap W s.size 0 5 ∧ Below W.heap.size W (Lib.bytesWorld W 5 s) := by
  refine ⟨fun {l} hl => ?_, grownCap_ge W s.size 0 5, rfl, rfl, rfl, by rw [Lib.bytesWorld_size]; omega, fun k hk => Lib.bytesWorld_at_old W 5 s k hk⟩
  subst hl
  intro hl
  refine ⟨W.heap.size, 0, rfl, by rw [Lib.bytesWorld_size]; omega, fun k hk => ?_⟩
  rw [sb_len] at hk
  rw [Nat.zero_add, Lib.bytesWorld_cell W 5 s k hk]
  congr 2
  unfold sb
  simp [List.getD_eq_getElem?_getD]
  cases s.data[k]? <;> rfl
theorem conv_is {w' : World} {B : Nat} {A : Option Addr} {cap N : Nat} {R : List Nat} {S : ByteArray} (h : OwnY w' B A cap R) (hc : R.length = N ∧ strOf R = S ∧ 0 < R.length) : (convert 22 9 (.slice A N cap)).run Try.prog w' = .ok (.string S) w' := by
  obtain ⟨h1, h2, h3⟩ := hc
  subst h1; subst h2
  exact run_conv h.byts (fun e => (h.some h3 e).1)
theorem made_conv {w' : World} {g N : Nat} {R : List Nat} {S : ByteArray} (h : Byts w' w'.heap.size (some ⟨g, 0, none⟩) R) (hN : R.length = N) (hS : strOf R = S) : (convert 22 9 (.slice (some ⟨g, 0, none⟩) N N)).run Try.prog w' = .ok (.string S) w' := by
  subst hN; subst hS
  exact run_conv h (fun e => by cases e)
theorem putInt_m (A : Option Addr) (c m : Nat) (l : List Nat) (n : Int) (h1 : -9223372036854775808 ≤ n) (h2 : n ≤ 9223372036854775807) (w : World) (hy : Byts w w.heap.size A l) (hm : l.length = m) (hl : m ≤ 300000) (R : List Nat) (N : Nat) (hR : l ++ Cd.enc (Cd.num n) = R) (hN : R.length = N) :
    Calls Try.prog 13 #[.slice A m c, .int .i64 n] w (MadePost w N R) :=
  (putInt_at A c m l n R h1 h2 w hy hm (by omega) hR).mono fun _ _ h => h.made hN
theorem putText_m (A : Option Addr) (c m : Nat) (l : List Nat) (s : ByteArray) (w : World) (hy : Byts w w.heap.size A l) (hm : l.length = m) (hl : m ≤ 300000) (hs : s.size ≤ 300000) (R : List Nat) (N : Nat) (hR : l ++ (Cd.enc (Cd.num s.size) ++ sb s) = R) (hN : R.length = N) :
    Calls Try.prog 15 #[.slice A m c, .string s] w (MadePost w N R) := by
  subst hm; subst hR
  exact (putText_any A c l s w hy (by omega)).mono fun _ _ h => h.made hN
theorem putInts_m (A : Option Addr) (c m : Nat) (l : List Nat) (A2 : Option Addr) (c2 n : Nat) (L : List Int) (w : World) (hy : Byts w w.heap.size A l) (hm : l.length = m) (hl : m ≤ 300000) (hi : Ints w w.heap.size A2 L) (h64 : I64 L) (hn : L.length = n) (hL : n ≤ 1000) (R : List Nat) (N : Nat) (hR : l ++ (Cd.enc (Cd.num L.length) ++ Cd.encs L) = R) (hN : R.length = N) :
    Calls Try.prog 17 #[.slice A m c, .slice A2 n c2] w (MadePost w N R) :=
  (putInts_at A c m l A2 c2 n L R w hy hi h64 hm hn (by omega) hL hR).mono fun _ _ h => h.made hN

set_option maxRecDepth 100000 in
set_option maxHeartbeats 4000000 in
theorem writes_any (A : Option Addr) (cap : Nat) (l : List Nat) (n : Int) (hn1 : -9223372036854775808 ≤ n) (hn2 : n ≤ 9223372036854775807) (s : ByteArray) (A2 : Option Addr) (cap2 : Nat) (L : List Int) (w : World)
    (hy : Byts w w.heap.size A l) (hY : Cd.Byt l) (h0 : A = none → l = []) (hi : Ints w w.heap.size A2 L) (h64 : I64 L) (hs : s.size ≤ maxLen) (hl : l.length ≤ maxLen) (hL : L.length ≤ maxLen) :
    Calls Try.prog 8 #[.slice A l.length cap, .int .i64 n, .string s, .slice A2 L.length cap2] w fun e w' => e = .returned (.bool true) ∧ Below w.heap.size w w' := by
  unfold maxLen at hs hl hL
  by_cases hfew : ¬ (l.length ≤ 300 ∧ s.size ≤ 300 ∧ L.length ≤ 300)
  · go_enter Try.func8, Try.ntmps8
    go_wp2_with fail
    refine (few_on A A2 l.length cap L.length cap2 s false _ (by simp; omega)).mono ?_
    rintro e w1 ⟨rfl, hb1⟩
    go_wp2_with fail
    refine (awake_any _).mono ?_
    rintro e w2 ⟨rfl, hb2⟩
    go_wp2_with fail
    go_ret
    exact ⟨rfl, hb1.trans (hb2.mono hb1.size)⟩
  · have hf0 : l.length ≤ 300 := by omega
    have hf1 : s.size ≤ 300 := by omega
    have hf2 : L.length ≤ 300 := by omega
    have HF := Lib.hid (show (decide (l.length ≤ 300) && (decide (s.size ≤ 300) && decide (L.length ≤ 300))) = true by simp [hf0, hf1, hf2])
    clear hfew hs hl hL
    have hts := strOf_size hY
    have htb := sb_strOf hY
    have hconv := fun W (h : Byts W W.heap.size A l) => run_conv (c := cap) h h0
    obtain ⟨t, ht⟩ : ∃ t, strOf l = t := ⟨_, rfl⟩
    rw [ht] at hts htb hconv
    obtain ⟨m, hm⟩ : ∃ m, l.length = m := ⟨_, rfl⟩
    rw [hm] at hf0 HF hts hconv ⊢
    have HM := Lib.hid hm
    have HT := Lib.hid htb
    have HTS := Lib.hid (show l.length = t.size by rw [hm, hts])
    have HTM := Lib.hid hts
    have HCONV := Lib.hid hconv
    have hts2 : t.size ≤ 300 := by omega
    have HY := Lib.hid hy
    have HI0 := Lib.hid hi
    have H64 := Lib.hid h64
    clear hm htb ht hts hconv hi h64
    obtain ⟨R1, hR1⟩ : ∃ R, l ++ Cd.enc (Cd.num n) = R := ⟨_, rfl⟩
    obtain ⟨R2, hR2⟩ : ∃ R, l ++ (Cd.enc (Cd.num s.size) ++ sb s) = R := ⟨_, rfl⟩
    obtain ⟨R3, hR3⟩ : ∃ R, l ++ (Cd.enc (Cd.num L.length) ++ Cd.encs L) = R := ⟨_, rfl⟩
    have hp1 : 0 < R1.length := by rw [← hR1, List.length_append]; have := enc_pos (Cd.num n); omega
    have hp2 : 0 < R2.length := by rw [← hR2, List.length_append, List.length_append]; have := enc_pos (Cd.num s.size); omega
    have hp3 : 0 < R3.length := by rw [← hR3, List.length_append, List.length_append]; have := enc_pos (Cd.num L.length); omega
    obtain ⟨N1, hN1⟩ : ∃ N, R1.length = N := ⟨_, rfl⟩
    obtain ⟨N2, hN2⟩ : ∃ N, R2.length = N := ⟨_, rfl⟩
    obtain ⟨N3, hN3⟩ : ∃ N, R3.length = N := ⟨_, rfl⟩
    obtain ⟨S1, hS1⟩ : ∃ S, strOf R1 = S := ⟨_, rfl⟩
    obtain ⟨S2, hS2⟩ : ∃ S, strOf R2 = S := ⟨_, rfl⟩
    obtain ⟨S3, hS3⟩ : ∃ S, strOf R3 = S := ⟨_, rfl⟩
    have HR1 := Lib.hid hR1
    have HR2 := Lib.hid hR2
    have HR3 := Lib.hid hR3
    have HN1 := Lib.hid hN1
    have HN2 := Lib.hid hN2
    have HN3 := Lib.hid hN3
    have HC1 := Lib.hid (show R1.length = N1 ∧ strOf R1 = S1 ∧ 0 < R1.length from ⟨hN1, hS1, hp1⟩)
    have HC2 := Lib.hid (show R2.length = N2 ∧ strOf R2 = S2 ∧ 0 < R2.length from ⟨hN2, hS2, hp2⟩)
    have HC3 := Lib.hid (show R3.length = N3 ∧ strOf R3 = S3 ∧ 0 < R3.length from ⟨hN3, hS3, hp3⟩)
    clear hR1 hR2 hR3 hN1 hN2 hN3 hS1 hS2 hS3 hp1 hp2 hp3
    go_enter Try.func8, Try.ntmps8
    go_wp2_with fail
    refine (few_on A A2 m cap L.length cap2 s true _ HF.out).mono ?_
    rintro e w1 ⟨rfl, hb1⟩
    have hy1 := byts_after HY.out hb1
    have hcv1 := HCONV.out w1 hy1
    clear hy
    go_wp2_with fail
    refine (putInt_m A cap m l n hn1 hn2 _ hy1 HM.out (by omega) R1 N1 HR1.out HN1.out).mono ?_
    rintro e w2 ⟨g2, rfl, hy2, hb2⟩
    have h12 := hb1.trans (hb2.mono hb1.size)
    clear hcv1
    go_wp2_with fail
    refine (putText_m A cap m l s _ (byts_after HY.out h12) HM.out (by omega) (by omega) R2 N2 HR2.out HN2.out).mono ?_
    rintro e w3 ⟨g3, rfl, hy3, hb3⟩
    have h13 := h12.trans (hb3.mono h12.size)
    go_wp2_with fail
    refine (putInts_m A cap m l A2 cap2 L.length L _ (byts_after HY.out h13) HM.out (by omega) ((HI0.out.below h13).more h13.size) H64.out rfl (by omega) R3 N3 HR3.out HN3.out).mono ?_
    rintro e w5 ⟨g4, rfl, hy4, hb4⟩
    have h14 := h13.trans (hb4.mono h13.size)
    have hya := byts_after (byts_after hy2 hb3) hb4
    have hyb := byts_after hy3 hb4
    have HS : Hid (∀ W, Below w5.heap.size w5 W → (convert 22 9 (.slice (some ⟨g2, 0, none⟩) N1 N1)).run Try.prog W = .ok (.string S1) W ∧ (convert 22 9 (.slice (some ⟨g3, 0, none⟩) N2 N2)).run Try.prog W = .ok (.string S2) W ∧ (convert 22 9 (.slice (some ⟨g4, 0, none⟩) N3 N3)).run Try.prog W = .ok (.string S3) W ∧ (convert 22 9 (.slice A m cap)).run Try.prog W = .ok (.string t) W) :=
      Lib.hid fun W h => ⟨made_conv (byts_after hya h) HN1.out HC1.out.2.1, made_conv (byts_after hyb h) HN2.out HC2.out.2.1, made_conv (byts_after hy4 h) HN3.out HC3.out.2.1, HCONV.out W (byts_after (byts_after HY.out h14) h)⟩
    have HI : Hid (∀ W, Below w5.heap.size w5 W → Ints W W.heap.size A2 L) := Lib.hid fun W h => ((((HI0.out.below h14).more h14.size).below h).more h.size)
    have HBEL := Lib.hid h14
    have hz0 := (Below.refl w5.heap.size w5).drew
    have htob := fun W : World => Lib.run_convert_string_bytes (P := Try.prog) W 9 22 5 t Try.underlying9 Try.underlying22 Try.underlying5
    clear hb1 hb2 hb3 hb4 hy1 hy2 hy3 hy4 h12 h13 h14 hya hyb HY HI0 HCONV
    go_wp2_with fail
    refine wp_region_held_drew (S := fun W => (convert 22 9 (.slice (some ⟨g2, 0, none⟩) N1 N1)).run Try.prog W = .ok (.string S1) W ∧ (convert 22 9 (.slice (some ⟨g3, 0, none⟩) N2 N2)).run Try.prog W = .ok (.string S2) W ∧ (convert 22 9 (.slice (some ⟨g4, 0, none⟩) N3 N3)).run Try.prog W = .ok (.string S3) W ∧ (convert 22 9 (.slice A m cap)).run Try.prog W = .ok (.string t) W) (by kernel_rfl) (HS.out _ (Below.refl _ _).drew) (fun hHeld => ?_)
    refine wpAnyH_take (i := 0) (v := ?_) at0 (by kernel_rfl) (by kernel_rfl) (by kernel_rfl) (fun _ _ _ h => h) (Or.inl ⟨by rfl, ?_⟩) (by assumption) ?_
    rotate_left
    · (intro w hSw; (try dsimp only at hSw); go_simp; first | done | with_reducible rfl)
    (try simp only [Act.put, List.setIfInBounds_toArray, List.set_cons_zero, List.set_cons_succ])
    refine wpAnyH_take (i := 1) (v := ?_) (atS <| at0) (by kernel_rfl) (by kernel_rfl) (by kernel_rfl) (fun _ _ _ h => h) (Or.inl ⟨by rfl, ?_⟩) (by assumption) ?_
    rotate_left
    · (intro w hSw; (try dsimp only at hSw); go_simp; first | done | with_reducible rfl)
    (try simp only [Act.put, List.setIfInBounds_toArray, List.set_cons_zero, List.set_cons_succ])
    refine wpAnyH_take (i := 2) (v := ?_) (atS <| atS <| at0) (by kernel_rfl) (by kernel_rfl) (by kernel_rfl) (fun _ _ _ h => h) (Or.inl ⟨by rfl, ?_⟩) (by assumption) ?_
    rotate_left
    · (intro w hSw; (try dsimp only at hSw); go_simp; first | done | with_reducible rfl)
    (try simp only [Act.put, List.setIfInBounds_toArray, List.set_cons_zero, List.set_cons_succ])
    refine wpAnyH_take (i := 4) (v := ?_) (atS <| atS <| atS <| atS <| at0) (by kernel_rfl) (by kernel_rfl) (by kernel_rfl) (fun _ _ _ h => h) (Or.inl ⟨by rfl, ?_⟩) (by assumption) ?_
    rotate_left
    · (intro w hSw; (try dsimp only at hSw); go_simp; first | done | with_reducible rfl)
    (try simp only [Act.put, List.setIfInBounds_toArray, List.set_cons_zero, List.set_cons_succ])
    refine wpAnyH_ready (rs := [3]) (by kernel_rfl) (by simp) ?_
    refine AllReadyH.cons (atS <| atS <| atS <| at0) (fun K hK => ?_) AllReadyH.nil
    go_simp
    have hfb := tobytes_facts w5.drew t
    revert hfb
    generalize Lib.bytesWorld w5.drew 5 t = wb1
    generalize grownCap w5.drew t.size 0 5 = cb1
    rintro ⟨hyb1, hcb1, hbb1⟩
    have hz1 := hz0.trans (hbb1.mono hz0.size)
    refine hK.out _ _ (HS.out _ hz1) (fun hHeld1 => ?_)
    clear hK K hHeld
    have hHeld := hHeld1
    clear hHeld1
    (try simp only [Act.put, List.setIfInBounds_toArray, List.set_cons_zero, List.set_cons_succ])
    refine wpAnyH_ready (rs := [5]) (by kernel_rfl) (by simp) ?_
    refine AllReadyH.cons (atS <| atS <| atS <| atS <| atS <| at0) (fun K hK => ?_) AllReadyH.nil
    go_simp
    go_at_call 24
    refine (rputInt_any _ _ t.size l n hn1 hn2 _ (hyb1 HT.out) (fun e => by cases e) HTS.out (by omega) R1 N1 HR1.out HN1.out).mono ?_
    rintro e wc1 ⟨Ac1, cc1, rfl, hoc1, hbc1⟩
    have hzc1 := hz1.trans (hbc1.mono hz1.size)
    have hcv1 := conv_is hoc1 HC1.out
    (try go_wp2_with fail)
    refine hK.out _ _ (HS.out _ hzc1) (fun hHeld2 => ?_)
    clear hK K hHeld
    have hHeld := hHeld2
    clear hHeld2
    (try simp only [Act.put, List.setIfInBounds_toArray, List.set_cons_zero, List.set_cons_succ])
    refine wpAnyH_ready (rs := [6]) (by kernel_rfl) (by simp) ?_
    refine AllReadyH.cons (atS <| atS <| atS <| atS <| atS <| atS <| at0) (fun K hK => ?_) AllReadyH.nil
    go_simp
    refine hK.out _ _ (HS.out _ hzc1) (fun hHeld3 => ?_)
    clear hK K hHeld
    have hHeld := hHeld3
    clear hHeld3
    (try simp only [Act.put, List.setIfInBounds_toArray, List.set_cons_zero, List.set_cons_succ])
    clear hcv1 hoc1 hbc1 hbb1 hcb1 hz1
    refine wpAnyH_take (i := 7) (v := ?_) (atS <| atS <| atS <| atS <| atS <| atS <| atS <| at0) (by kernel_rfl) (by kernel_rfl) (by kernel_rfl) (fun _ _ _ h => h) (Or.inl ⟨by rfl, ?_⟩) (by assumption) ?_
    rotate_left
    · (intro w hSw; (try dsimp only at hSw); go_simp; first | done | with_reducible rfl)
    (try simp only [Act.put, List.setIfInBounds_toArray, List.set_cons_zero, List.set_cons_succ])
    refine wpAnyH_take (i := 8) (v := ?_) (atS <| atS <| atS <| atS <| atS <| atS <| atS <| atS <| at0) (by kernel_rfl) (by kernel_rfl) (by kernel_rfl) (fun _ _ _ h => h) (Or.inl ⟨by rfl, ?_⟩) (by assumption) ?_
    rotate_left
    · (intro w hSw; (try dsimp only at hSw); go_simp; first | done | with_reducible rfl)
    (try simp only [Act.put, List.setIfInBounds_toArray, List.set_cons_zero, List.set_cons_succ])
    refine wpAnyH_take (i := 9) (v := ?_) (atS <| atS <| atS <| atS <| atS <| atS <| atS <| atS <| atS <| at0) (by kernel_rfl) (by kernel_rfl) (by kernel_rfl) (fun _ _ _ h => h) (Or.inl ⟨by rfl, ?_⟩) (by assumption) ?_
    rotate_left
    · (intro w hSw; (try dsimp only at hSw); go_simp; first | done | with_reducible rfl)
    (try simp only [Act.put, List.setIfInBounds_toArray, List.set_cons_zero, List.set_cons_succ])
    refine wpAnyH_take (i := 10) (v := ?_) (atS <| atS <| atS <| atS <| atS <| atS <| atS <| atS <| atS <| atS <| at0) (by kernel_rfl) (by kernel_rfl) (by kernel_rfl) (fun _ _ _ h => h) (Or.inl ⟨by rfl, ?_⟩) (by assumption) ?_
    rotate_left
    · (intro w hSw; (try dsimp only at hSw); go_simp; first | done | with_reducible rfl)
    (try simp only [Act.put, List.setIfInBounds_toArray, List.set_cons_zero, List.set_cons_succ])
    refine wpAnyH_take (i := 11) (v := ?_) (atS <| atS <| atS <| atS <| atS <| atS <| atS <| atS <| atS <| atS <| atS <| at0) (by kernel_rfl) (by kernel_rfl) (by kernel_rfl) (fun _ _ _ h => h) (Or.inl ⟨by rfl, ?_⟩) (by assumption) ?_
    rotate_left
    · (intro w hSw; (try dsimp only at hSw); go_simp; first | done | with_reducible rfl)
    (try simp only [Act.put, List.setIfInBounds_toArray, List.set_cons_zero, List.set_cons_succ])
    refine wpAnyH_take (i := 13) (v := ?_) (atS <| atS <| atS <| atS <| atS <| atS <| atS <| atS <| atS <| atS <| atS <| atS <| atS <| at0) (by kernel_rfl) (by kernel_rfl) (by kernel_rfl) (fun _ _ _ h => h) (Or.inl ⟨by rfl, ?_⟩) (by assumption) ?_
    rotate_left
    · (intro w hSw; (try dsimp only at hSw); go_simp; first | done | with_reducible rfl)
    (try simp only [Act.put, List.setIfInBounds_toArray, List.set_cons_zero, List.set_cons_succ])
    refine wpAnyH_ready (rs := [12]) (by kernel_rfl) (by simp) ?_
    refine AllReadyH.cons (atS <| atS <| atS <| atS <| atS <| atS <| atS <| atS <| atS <| atS <| atS <| atS <| at0) (fun K hK => ?_) AllReadyH.nil
    go_simp
    have hfb := tobytes_facts wc1 t
    revert hfb
    generalize Lib.bytesWorld wc1 5 t = wb2
    generalize grownCap wc1 t.size 0 5 = cb2
    rintro ⟨hyb2, hcb2, hbb2⟩
    have hz2 := hzc1.trans (hbb2.mono hzc1.size)
    refine hK.out _ _ (HS.out _ hz2) (fun hHeld4 => ?_)
    clear hK K hHeld
    have hHeld := hHeld4
    clear hHeld4
    (try simp only [Act.put, List.setIfInBounds_toArray, List.set_cons_zero, List.set_cons_succ])
    refine wpAnyH_ready (rs := [14]) (by kernel_rfl) (by simp) ?_
    refine AllReadyH.cons (atS <| atS <| atS <| atS <| atS <| atS <| atS <| atS <| atS <| atS <| atS <| atS <| atS <| atS <| at0) (fun K hK => ?_) AllReadyH.nil
    go_simp
    go_at_call 25
    refine (rputText_any _ _ t.size l s _ (hyb2 HT.out) (fun e => by cases e) HTS.out (by omega) (by omega) R2 N2 HR2.out HN2.out).mono ?_
    rintro e wc2 ⟨Ac2, cc2, rfl, hoc2, hbc2⟩
    have hzc2 := hz2.trans (hbc2.mono hz2.size)
    have hcv2 := conv_is hoc2 HC2.out
    (try go_wp2_with fail)
    refine hK.out _ _ (HS.out _ hzc2) (fun hHeld5 => ?_)
    clear hK K hHeld
    have hHeld := hHeld5
    clear hHeld5
    (try simp only [Act.put, List.setIfInBounds_toArray, List.set_cons_zero, List.set_cons_succ])
    refine wpAnyH_ready (rs := [15]) (by kernel_rfl) (by simp) ?_
    refine AllReadyH.cons (atS <| atS <| atS <| atS <| atS <| atS <| atS <| atS <| atS <| atS <| atS <| atS <| atS <| atS <| atS <| at0) (fun K hK => ?_) AllReadyH.nil
    go_simp
    refine hK.out _ _ (HS.out _ hzc2) (fun hHeld6 => ?_)
    clear hK K hHeld
    have hHeld := hHeld6
    clear hHeld6
    (try simp only [Act.put, List.setIfInBounds_toArray, List.set_cons_zero, List.set_cons_succ])
    clear hcv2 hoc2 hbc2 hbb2 hcb2 hz2
    refine wpAnyH_take (i := 16) (v := ?_) (atS <| atS <| atS <| atS <| atS <| atS <| atS <| atS <| atS <| atS <| atS <| atS <| atS <| atS <| atS <| atS <| at0) (by kernel_rfl) (by kernel_rfl) (by kernel_rfl) (fun _ _ _ h => h) (Or.inl ⟨by rfl, ?_⟩) (by assumption) ?_
    rotate_left
    · (intro w hSw; (try dsimp only at hSw); go_simp; first | done | with_reducible rfl)
    (try simp only [Act.put, List.setIfInBounds_toArray, List.set_cons_zero, List.set_cons_succ])
    refine wpAnyH_take (i := 17) (v := ?_) (atS <| atS <| atS <| atS <| atS <| atS <| atS <| atS <| atS <| atS <| atS <| atS <| atS <| atS <| atS <| atS <| atS <| at0) (by kernel_rfl) (by kernel_rfl) (by kernel_rfl) (fun _ _ _ h => h) (Or.inl ⟨by rfl, ?_⟩) (by assumption) ?_
    rotate_left
    · (intro w hSw; (try dsimp only at hSw); go_simp; first | done | with_reducible rfl)
    (try simp only [Act.put, List.setIfInBounds_toArray, List.set_cons_zero, List.set_cons_succ])
    refine wpAnyH_take (i := 18) (v := ?_) (atS <| atS <| atS <| atS <| atS <| atS <| atS <| atS <| atS <| atS <| atS <| atS <| atS <| atS <| atS <| atS <| atS <| atS <| at0) (by kernel_rfl) (by kernel_rfl) (by kernel_rfl) (fun _ _ _ h => h) (Or.inl ⟨by rfl, ?_⟩) (by assumption) ?_
    rotate_left
    · (intro w hSw; (try dsimp only at hSw); go_simp; first | done | with_reducible rfl)
    (try simp only [Act.put, List.setIfInBounds_toArray, List.set_cons_zero, List.set_cons_succ])
    refine wpAnyH_take (i := 19) (v := ?_) (atS <| atS <| atS <| atS <| atS <| atS <| atS <| atS <| atS <| atS <| atS <| atS <| atS <| atS <| atS <| atS <| atS <| atS <| atS <| at0) (by kernel_rfl) (by kernel_rfl) (by kernel_rfl) (fun _ _ _ h => h) (Or.inl ⟨by rfl, ?_⟩) (by assumption) ?_
    rotate_left
    · (intro w hSw; (try dsimp only at hSw); go_simp; first | done | with_reducible rfl)
    (try simp only [Act.put, List.setIfInBounds_toArray, List.set_cons_zero, List.set_cons_succ])
    refine wpAnyH_take (i := 20) (v := ?_) (atS <| atS <| atS <| atS <| atS <| atS <| atS <| atS <| atS <| atS <| atS <| atS <| atS <| atS <| atS <| atS <| atS <| atS <| atS <| atS <| at0) (by kernel_rfl) (by kernel_rfl) (by kernel_rfl) (fun _ _ _ h => h) (Or.inl ⟨by rfl, ?_⟩) (by assumption) ?_
    rotate_left
    · (intro w hSw; (try dsimp only at hSw); go_simp; first | done | with_reducible rfl)
    (try simp only [Act.put, List.setIfInBounds_toArray, List.set_cons_zero, List.set_cons_succ])
    refine wpAnyH_take (i := 21) (v := ?_) (atS <| atS <| atS <| atS <| atS <| atS <| atS <| atS <| atS <| atS <| atS <| atS <| atS <| atS <| atS <| atS <| atS <| atS <| atS <| atS <| atS <| at0) (by kernel_rfl) (by kernel_rfl) (by kernel_rfl) (fun _ _ _ h => h) (Or.inl ⟨by rfl, ?_⟩) (by assumption) ?_
    rotate_left
    · (intro w hSw; (try dsimp only at hSw); go_simp; first | done | with_reducible rfl)
    (try simp only [Act.put, List.setIfInBounds_toArray, List.set_cons_zero, List.set_cons_succ])
    refine wpAnyH_take (i := 23) (v := ?_) (atS <| atS <| atS <| atS <| atS <| atS <| atS <| atS <| atS <| atS <| atS <| atS <| atS <| atS <| atS <| atS <| atS <| atS <| atS <| atS <| atS <| atS <| atS <| at0) (by kernel_rfl) (by kernel_rfl) (by kernel_rfl) (fun _ _ _ h => h) (Or.inl ⟨by rfl, ?_⟩) (by assumption) ?_
    rotate_left
    · (intro w hSw; (try dsimp only at hSw); go_simp; first | done | with_reducible rfl)
    (try simp only [Act.put, List.setIfInBounds_toArray, List.set_cons_zero, List.set_cons_succ])
    refine wpAnyH_ready (rs := [22]) (by kernel_rfl) (by simp) ?_
    refine AllReadyH.cons (atS <| atS <| atS <| atS <| atS <| atS <| atS <| atS <| atS <| atS <| atS <| atS <| atS <| atS <| atS <| atS <| atS <| atS <| atS <| atS <| atS <| atS <| at0) (fun K hK => ?_) AllReadyH.nil
    go_simp
    have hfb := tobytes_facts wc2 t
    revert hfb
    generalize Lib.bytesWorld wc2 5 t = wb3
    generalize grownCap wc2 t.size 0 5 = cb3
    rintro ⟨hyb3, hcb3, hbb3⟩
    have hz3 := hzc2.trans (hbb3.mono hzc2.size)
    refine hK.out _ _ (HS.out _ hz3) (fun hHeld7 => ?_)
    clear hK K hHeld
    have hHeld := hHeld7
    clear hHeld7
    (try simp only [Act.put, List.setIfInBounds_toArray, List.set_cons_zero, List.set_cons_succ])
    refine wpAnyH_ready (rs := [24]) (by kernel_rfl) (by simp) ?_
    refine AllReadyH.cons (atS <| atS <| atS <| atS <| atS <| atS <| atS <| atS <| atS <| atS <| atS <| atS <| atS <| atS <| atS <| atS <| atS <| atS <| atS <| atS <| atS <| atS <| atS <| atS <| at0) (fun K hK => ?_) AllReadyH.nil
    go_simp
    go_at_call 26
    refine (rputInts_any _ _ t.size l A2 cap2 L.length L _ (hyb3 HT.out) (fun e => by cases e) HTS.out (by omega) (HI.out _ hz3) H64.out rfl (by omega) R3 N3 HR3.out HN3.out).mono ?_
    rintro e wc3 ⟨Ac3, cc3, rfl, hoc3, hbc3⟩
    have hzc3 := hz3.trans (hbc3.mono hz3.size)
    have hcv3 := conv_is hoc3 HC3.out
    (try go_wp2_with fail)
    refine hK.out _ _ (HS.out _ hzc3) (fun hHeld8 => ?_)
    clear hK K hHeld
    have hHeld := hHeld8
    clear hHeld8
    (try simp only [Act.put, List.setIfInBounds_toArray, List.set_cons_zero, List.set_cons_succ])
    refine wpAnyH_ready (rs := [25]) (by kernel_rfl) (by simp) ?_
    refine AllReadyH.cons (atS <| atS <| atS <| atS <| atS <| atS <| atS <| atS <| atS <| atS <| atS <| atS <| atS <| atS <| atS <| atS <| atS <| atS <| atS <| atS <| atS <| atS <| atS <| atS <| atS <| at0) (fun K hK => ?_) AllReadyH.nil
    go_simp
    refine hK.out _ _ (HS.out _ hzc3) (fun hHeld9 => ?_)
    clear hK K hHeld
    have hHeld := hHeld9
    clear hHeld9
    (try simp only [Act.put, List.setIfInBounds_toArray, List.set_cons_zero, List.set_cons_succ])
    clear hcv3 hoc3 hbc3 hbb3 hcb3 hz3
    refine wpAnyH_take (i := 26) (v := ?_) (atS <| atS <| atS <| atS <| atS <| atS <| atS <| atS <| atS <| atS <| atS <| atS <| atS <| atS <| atS <| atS <| atS <| atS <| atS <| atS <| atS <| atS <| atS <| atS <| atS <| atS <| at0) (by kernel_rfl) (by kernel_rfl) (by kernel_rfl) (fun _ _ _ h => h) (Or.inl ⟨by rfl, ?_⟩) (by assumption) ?_
    rotate_left
    · (intro w hSw; (try dsimp only at hSw); go_simp; first | done | with_reducible rfl)
    (try simp only [Act.put, List.setIfInBounds_toArray, List.set_cons_zero, List.set_cons_succ])
    refine wpAnyH_take (i := 27) (v := ?_) (atS <| atS <| atS <| atS <| atS <| atS <| atS <| atS <| atS <| atS <| atS <| atS <| atS <| atS <| atS <| atS <| atS <| atS <| atS <| atS <| atS <| atS <| atS <| atS <| atS <| atS <| atS <| at0) (by kernel_rfl) (by kernel_rfl) (by kernel_rfl) (fun _ _ _ h => h) (Or.inl ⟨by rfl, ?_⟩) (by assumption) ?_
    rotate_left
    · (intro w hSw; (try dsimp only at hSw); go_simp; first | done | with_reducible rfl)
    (try simp only [Act.put, List.setIfInBounds_toArray, List.set_cons_zero, List.set_cons_succ])
    refine wpAnyH_take (i := 28) (v := ?_) (atS <| atS <| atS <| atS <| atS <| atS <| atS <| atS <| atS <| atS <| atS <| atS <| atS <| atS <| atS <| atS <| atS <| atS <| atS <| atS <| atS <| atS <| atS <| atS <| atS <| atS <| atS <| atS <| at0) (by kernel_rfl) (by kernel_rfl) (by kernel_rfl) (fun _ _ _ h => h) (Or.inl ⟨by rfl, ?_⟩) (by assumption) ?_
    rotate_left
    · (intro w hSw; (try dsimp only at hSw); go_simp; first | done | with_reducible rfl)
    (try simp only [Act.put, List.setIfInBounds_toArray, List.set_cons_zero, List.set_cons_succ])
    refine wpAnyH_take (i := 29) (v := ?_) (atS <| atS <| atS <| atS <| atS <| atS <| atS <| atS <| atS <| atS <| atS <| atS <| atS <| atS <| atS <| atS <| atS <| atS <| atS <| atS <| atS <| atS <| atS <| atS <| atS <| atS <| atS <| atS <| atS <| at0) (by kernel_rfl) (by kernel_rfl) (by kernel_rfl) (fun _ _ _ h => h) (Or.inl ⟨by rfl, ?_⟩) (by assumption) ?_
    rotate_left
    · (intro w hSw; (try dsimp only at hSw); go_simp; first | done | with_reducible rfl)
    (try simp only [Act.put, List.setIfInBounds_toArray, List.set_cons_zero, List.set_cons_succ])
    refine wpAnyH_take (i := 30) (v := ?_) (atS <| atS <| atS <| atS <| atS <| atS <| atS <| atS <| atS <| atS <| atS <| atS <| atS <| atS <| atS <| atS <| atS <| atS <| atS <| atS <| atS <| atS <| atS <| atS <| atS <| atS <| atS <| atS <| atS <| atS <| at0) (by kernel_rfl) (by kernel_rfl) (by kernel_rfl) (fun _ _ _ h => h) (Or.inl ⟨by rfl, ?_⟩) (by assumption) ?_
    rotate_left
    · (intro w hSw; (try dsimp only at hSw); go_simp; first | done | with_reducible rfl)
    (try simp only [Act.put, List.setIfInBounds_toArray, List.set_cons_zero, List.set_cons_succ])
    refine wpAnyH_take (i := 31) (v := ?_) (atS <| atS <| atS <| atS <| atS <| atS <| atS <| atS <| atS <| atS <| atS <| atS <| atS <| atS <| atS <| atS <| atS <| atS <| atS <| atS <| atS <| atS <| atS <| atS <| atS <| atS <| atS <| atS <| atS <| atS <| atS <| at0) (by kernel_rfl) (by kernel_rfl) (by kernel_rfl) (fun _ _ _ h => h) (Or.inl ⟨by rfl, ?_⟩) (by assumption) ?_
    rotate_left
    · (intro w hSw; (try dsimp only at hSw); go_simp; first | done | with_reducible rfl)
    (try simp only [Act.put, List.setIfInBounds_toArray, List.set_cons_zero, List.set_cons_succ])
    refine wpAnyH_take (i := 32) (v := ?_) (atS <| atS <| atS <| atS <| atS <| atS <| atS <| atS <| atS <| atS <| atS <| atS <| atS <| atS <| atS <| atS <| atS <| atS <| atS <| atS <| atS <| atS <| atS <| atS <| atS <| atS <| atS <| atS <| atS <| atS <| atS <| atS <| at0) (by kernel_rfl) (by kernel_rfl) (by kernel_rfl) (fun _ _ _ h => h) (Or.inl ⟨by rfl, ?_⟩) (by assumption) ?_
    rotate_left
    · (intro w hSw; (try dsimp only at hSw); go_simp; first | done | with_reducible rfl)
    (try simp only [Act.put, List.setIfInBounds_toArray, List.set_cons_zero, List.set_cons_succ])
    refine wpAnyH_take (i := 33) (v := ?_) (atS <| atS <| atS <| atS <| atS <| atS <| atS <| atS <| atS <| atS <| atS <| atS <| atS <| atS <| atS <| atS <| atS <| atS <| atS <| atS <| atS <| atS <| atS <| atS <| atS <| atS <| atS <| atS <| atS <| atS <| atS <| atS <| atS <| at0) (by kernel_rfl) (by kernel_rfl) (by kernel_rfl) (fun _ _ _ h => h) (Or.inl ⟨by rfl, ?_⟩) (by assumption) ?_
    rotate_left
    · (intro w hSw; (try dsimp only at hSw); go_simp; first | done | with_reducible rfl)
    (try simp only [Act.put, List.setIfInBounds_toArray, List.set_cons_zero, List.set_cons_succ])
    refine wpAnyH_take (i := 34) (v := ?_) (atS <| atS <| atS <| atS <| atS <| atS <| atS <| atS <| atS <| atS <| atS <| atS <| atS <| atS <| atS <| atS <| atS <| atS <| atS <| atS <| atS <| atS <| atS <| atS <| atS <| atS <| atS <| atS <| atS <| atS <| atS <| atS <| atS <| atS <| at0) (by kernel_rfl) (by kernel_rfl) (by kernel_rfl) (fun _ _ _ h => h) (Or.inl ⟨by rfl, ?_⟩) (by assumption) ?_
    rotate_left
    · (intro w hSw; (try dsimp only at hSw); go_simp; first | done | with_reducible rfl)
    (try simp only [Act.put, List.setIfInBounds_toArray, List.set_cons_zero, List.set_cons_succ])
    refine wpAnyH_ready (rs := [35]) (by kernel_rfl) (by simp) ?_
    refine AllReadyH.cons (atS <| atS <| atS <| atS <| atS <| atS <| atS <| atS <| atS <| atS <| atS <| atS <| atS <| atS <| atS <| atS <| atS <| atS <| atS <| atS <| atS <| atS <| atS <| atS <| atS <| atS <| atS <| atS <| atS <| atS <| atS <| atS <| atS <| atS <| atS <| at0) (fun K hK => ?_) AllReadyH.nil
    go_simp
    go_at_call 11
    refine (awake_any wc3).mono ?_
    rintro e w9 ⟨rfl, hb9⟩
    have hz9 := hzc3.trans (hb9.mono hzc3.size)
    (try go_wp2_with fail)
    refine hK.out _ _ (HS.out _ hz9) (fun hHeld10 => ?_)
    clear hK K hHeld
    have hHeld := hHeld10
    clear hHeld10
    (try simp only [Act.put, List.setIfInBounds_toArray, List.set_cons_zero, List.set_cons_succ])
    refine wpAnyH_take (i := 36) (v := ?_) (atS <| atS <| atS <| atS <| atS <| atS <| atS <| atS <| atS <| atS <| atS <| atS <| atS <| atS <| atS <| atS <| atS <| atS <| atS <| atS <| atS <| atS <| atS <| atS <| atS <| atS <| atS <| atS <| atS <| atS <| atS <| atS <| atS <| atS <| atS <| atS <| at0) (by kernel_rfl) (by kernel_rfl) (by kernel_rfl) (fun _ _ _ h => h) (Or.inl ⟨by rfl, ?_⟩) (by assumption) ?_
    rotate_left
    · (intro w hSw; (try dsimp only at hSw); go_simp; first | done | with_reducible rfl)
    (try simp only [Act.put, List.setIfInBounds_toArray, List.set_cons_zero, List.set_cons_succ])
    refine wpAnyH_take (i := 37) (v := ?_) (atS <| atS <| atS <| atS <| atS <| atS <| atS <| atS <| atS <| atS <| atS <| atS <| atS <| atS <| atS <| atS <| atS <| atS <| atS <| atS <| atS <| atS <| atS <| atS <| atS <| atS <| atS <| atS <| atS <| atS <| atS <| atS <| atS <| atS <| atS <| atS <| atS <| at0) (by kernel_rfl) (by kernel_rfl) (by kernel_rfl) (fun _ _ _ h => h) (Or.inl ⟨by rfl, ?_⟩) (by assumption) ?_
    rotate_left
    · (intro w hSw; (try dsimp only at hSw); go_simp; first | done | with_reducible rfl)
    (try simp only [Act.put, List.setIfInBounds_toArray, List.set_cons_zero, List.set_cons_succ])
    refine wpAnyH_done (by kernel_rfl) ?_ _
    go_wp2_with fail
    go_ret
    exact ⟨rfl, HBEL.out.trans (hz9.mono HBEL.out.size)⟩
end Go.Proofs.Ytelanbiedfldgaa
