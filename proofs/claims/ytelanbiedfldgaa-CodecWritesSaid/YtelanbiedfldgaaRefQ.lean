/- The walks of the reference's PutText and PutInts. -/
import Derived.Test.YtelanbiedfldgaaRefP
namespace Go.Proofs.Ytelanbiedfldgaa
open Go.RowKit

theorem sb_snoc (s : ByteArray) (k : Nat) (h : k < s.size) : (sb s).take (k + 1) = (sb s).take k ++ [s[k].toNat] := by
  rw [List.take_succ_eq_append_getElem (by rw [sb_len]; exact h)]
  congr 2
  unfold sb
  simp
  rfl
set_option maxRecDepth 100000 in
set_option maxHeartbeats 1000000 in
theorem rputText_any (A : Option Addr) (c m : Nat) (l : List Nat) (s : ByteArray) (w : World) (hy : Byts w w.heap.size A l) (h0 : A = none → l = [] ∧ c = 0) (hm : l.length = m) (hl : m ≤ 300000) (hs : s.size ≤ 300000)
    (R : List Nat) (N : Nat) (hR : l ++ (Cd.enc (Cd.num s.size) ++ sb s) = R) (hN : R.length = N) :
    Calls Try.prog 25 #[.slice A m c, .string s] w (GrowPost w N R) := by
  have hel := enc_len (Cd.num s.size)
  have hep := enc_pos (Cd.num s.size)
  obtain ⟨P, hP⟩ : ∃ P, l ++ Cd.enc (Cd.num s.size) = P := ⟨_, rfl⟩
  have hPl : P.length ≤ 300010 := by rw [← hP, List.length_append, hm]; omega
  have hPp : 0 < P.length := by rw [← hP, List.length_append]; omega
  have hPR : P ++ sb s = R := by rw [← hP, List.append_assoc]; exact hR
  have HC := Lib.hid (rputInt_any A c m l s.size (by omega) (by omega) w hy h0 hm (by omega) P P.length hP rfl)
  have HR := Lib.hid hPR
  have HN := Lib.hid hN
  clear hy h0 hR hN hP hPR hel hep hm
  go_enter Try.func25, Try.ntmps25
  go_wp2_with fail
  refine HC.out.mono ?_
  rintro e w1 ⟨A1, cap1, rfl, ho1, hb1⟩
  have HO := Lib.hid ho1
  have HZ := Lib.hid hb1
  clear ho1 hb1 HC
  go_wp2_with fail
  go_loopw [5, 6] (fun v i wr => ∃ (k : Nat) (T : List Nat) (A' : Option Addr) (cap' : Nat), k ≤ s.size ∧ i = .int .i64 k ∧ v = .slice A' T.length cap' ∧ T = P ++ (sb s).take k ∧ T.length = P.length + k ∧
      OwnY wr w.heap.size A' cap' T ∧ Below w.heap.size w wr) (fun _ i _ => s.size - (intOf i).toNat)
  case atStart => exact ⟨0, P, A1, cap1, Nat.zero_le _, rfl, rfl, by simp, rfl, HO.out, HZ.out⟩
  case round =>
    clear HO HZ
    obtain ⟨k, T, A', cap', hk, rfl, rfl, hT, hTl, hown, hbel⟩ := hrel
    have HT := Lib.hid hT
    have HTL := Lib.hid hTl
    have hTb : T.length ≤ 700000 := by omega
    have HOW := Lib.hid hown
    have HBE := Lib.hid hbel
    clear hT hTl hown hbel
    by_cases hlt : k < s.size
    · have HS := Lib.hid (sb_snoc s k hlt)
      obtain ⟨y, hy⟩ : ∃ y, s[k].toNat = y := ⟨_, rfl⟩
      have HSY := Lib.hid hy
      clear hy
      go_wp2_with (at_builtin; refine wpList_append_bytes rfl (.tmp 17) (.tmp 21) rfl w.heap.size _ _ T.length T rfl rfl (HOW.out.alloc _) _ 1 1 [y] rfl rfl (byts_one wr _ _ (by first | exact congrArg Int.ofNat HSY.out | (simp; exact HSY.out) | (rw [← HSY.out]; simp))) (fun e => by cases e) (T ++ [y]) (T.length + 1) rfl (by simp) (by omega) (Nat.le_trans HBE.out.size (below_new wr _).size) ?_; intro A3 cap3 w3 ho3 hb3)
      have HB3 := Lib.hid ((HBE.out.alloc HBE.out.size _).trans hb3)
      have HO3 := Lib.hid ho3
      clear hb3 ho3
      go_wp2_with fail
      go_roundw
      case rel => exact ⟨k + 1, T ++ [y], A3, cap3, by omega, by go_num, by first | rfl | simp, by rw [HT.out, HS.out, HSY.out, List.append_assoc], by simp [HTL.out, Nat.add_assoc], HO3.out, HB3.out⟩
      case measure => simp [intOf]; omega
    · have hks : k = s.size := by omega
      have HK := Lib.hid hks
      clear hks
      go_wp2_with fail
      go_ret
      have e1 : T = R := by rw [HT.out, ← HR.out, HK.out, List.take_of_length_le (by rw [sb_len]; exact Nat.le_refl _)]
      have e2 : T.length = N := by rw [← HN.out, e1]
      have ho4 := HOW.out
      rw [e1] at ho4
      exact ⟨A', cap', by rw [← e2]; first | done | rfl, ho4, HBE.out⟩
set_option maxRecDepth 100000 in
set_option maxHeartbeats 1000000 in
theorem rputInts_any (A : Option Addr) (c m : Nat) (l : List Nat) (A2 : Option Addr) (c2 n : Nat) (L : List Int) (w : World) (hy : Byts w w.heap.size A l) (h0 : A = none → l = [] ∧ c = 0) (hm : l.length = m) (hl : m ≤ 300000) (hi : Ints w w.heap.size A2 L) (h64 : I64 L) (hn : L.length = n) (hL : n ≤ 1000)
    (R : List Nat) (N : Nat) (hR : l ++ (Cd.enc (Cd.num L.length) ++ Cd.encs L) = R) (hN : R.length = N) :
    Calls Try.prog 26 #[.slice A m c, .slice A2 n c2] w (GrowPost w N R) := by
  subst hn
  have hel := enc_len (Cd.num L.length)
  have hep := enc_pos (Cd.num L.length)
  obtain ⟨P, hP⟩ : ∃ P, l ++ Cd.enc (Cd.num L.length) = P := ⟨_, rfl⟩
  have hPl : P.length ≤ 300010 := by rw [← hP, List.length_append, hm]; omega
  have hPp : 0 < P.length := by rw [← hP, List.length_append]; omega
  have hPR : P ++ Cd.encs L = R := by rw [← hP, List.append_assoc]; exact hR
  have HC := Lib.hid (rputInt_any A c m l L.length (by omega) (by omega) w hy h0 hm (by omega) P P.length hP rfl)
  have HR := Lib.hid hPR
  have HN := Lib.hid hN
  have HI := Lib.hid hi
  have H64 := Lib.hid h64
  clear hy h0 hR hN hP hPR hel hep hm hi h64
  go_enter Try.func26, Try.ntmps26
  go_wp2_with fail
  refine HC.out.mono ?_
  rintro e w1 ⟨A1, cap1, rfl, ho1, hb1⟩
  have HO := Lib.hid ho1
  have HZ := Lib.hid hb1
  clear ho1 hb1 HC
  go_wp2_with fail
  go_loopw [5, 6] (fun v i wr => ∃ (k : Nat) (T : List Nat) (A' : Option Addr) (cap' : Nat), k ≤ L.length ∧ i = .int .i64 k ∧ v = .slice A' T.length cap' ∧ T = P ++ Cd.encs (L.take k) ∧ T.length ≤ P.length + 10 * k ∧ 0 < T.length ∧
      OwnY wr w.heap.size A' cap' T ∧ Below w.heap.size w wr) (fun _ i _ => L.length - (intOf i).toNat)
  case atStart => exact ⟨0, P, A1, cap1, Nat.zero_le _, rfl, rfl, by simp [Cd.encs], by omega, hPp, HO.out, HZ.out⟩
  case round =>
    clear HO HZ
    obtain ⟨k, T, A', cap', hk, rfl, rfl, hT, hTl, hTp, hown, hbel⟩ := hrel
    have HT := Lib.hid hT
    have hTb : T.length ≤ 700000 := by omega
    have HOW := Lib.hid hown
    have HBE := Lib.hid hbel
    clear hT hown hbel
    by_cases hlt : k < L.length
    · obtain ⟨b, off, rfl, hbl, hcell⟩ := HI.out (by omega)
      have hx := H64.out.getD k
      have hc := (HBE.out.cell (p := ⟨b, off + k, none⟩) hbl).trans (hcell k hlt)
      have hsn : Cd.encs (L.take (k + 1)) = Cd.encs (L.take k) ++ Cd.enc (Cd.num (L.getD k 0)) := encs_snoc L k hlt
      obtain ⟨x, hxx⟩ : ∃ x, x = L.getD k 0 := ⟨_, rfl⟩
      rw [← hxx] at hx hc hsn
      have HS := Lib.hid hsn
      have hel := enc_len (Cd.num x)
      obtain ⟨E, hE⟩ : ∃ E, Cd.enc (Cd.num x) = E := ⟨_, rfl⟩
      rw [hE] at hel HS
      have HX := Lib.hid hE
      clear hcell hxx hsn hE
      go_wp2_with fail
      refine (rputInt_any A' cap' T.length T x hx.1 hx.2 _ HOW.out.byts (HOW.out.some hTp) rfl (by omega) (T ++ E) (T ++ E).length (by rw [HX.out]) rfl).mono ?_
      rintro e w3 ⟨A3, cap3, rfl, ho3, hb3⟩
      have HB3 := Lib.hid (HBE.out.trans (hb3.mono HBE.out.size))
      have HO3 := Lib.hid (ho3.mono HBE.out.size)
      clear hb3 ho3 hx hc
      go_wp2_with fail
      go_roundw
      case rel => exact ⟨k + 1, T ++ E, A3, cap3, by omega, by go_num, by first | rfl | simp, by rw [HT.out, HS.out, List.append_assoc], by rw [List.length_append]; omega, by rw [List.length_append]; omega, HO3.out, HB3.out⟩
      case measure => simp [intOf]; omega
    · have hks : k = L.length := by omega
      have HK := Lib.hid hks
      clear hks
      go_wp2_with fail
      go_ret
      have e1 : T = R := by rw [HT.out, ← HR.out, HK.out, List.take_length]
      have e2 : T.length = N := by rw [← HN.out, e1]
      have ho4 := HOW.out
      rw [e1] at ho4
      exact ⟨A', cap', by rw [← e2]; first | done | rfl, ho4, HBE.out⟩
end Go.Proofs.Ytelanbiedfldgaa
