/- The walks of the reference's PutInt, PutText and PutInts. -/
import Derived.Test.YtelanbiedfldgaaBack
namespace Go.Proofs.Ytelanbiedfldgaa
open Go.RowKit

def GrowPost (w : World) (n : Nat) (L : List Nat) (e : Ending) (w' : World) : Prop :=
  ∃ A cap, e = .returned (.slice A n cap) ∧ OwnY w' w.heap.size A cap L ∧ Below w.heap.size w w'
theorem OwnY.some {w : World} {B : Nat} {A : Option Addr} {cap : Nat} {l : List Nat} (h : OwnY w B A cap l) (hl : 0 < l.length) : A = none → l = [] ∧ cap = 0 := fun e => by
  subst e
  rcases h.2 with ⟨_, h0⟩ | ⟨g, cap', cur, hv, _⟩
  · omega
  · simp at hv
theorem byts_one (w : World) (y : Nat) (x : Int) (h : x = (y : Int)) : Byts (w.alloc (.cells #[.int .u8 x] 5)) (w.alloc (.cells #[.int .u8 x] 5)).heap.size (some ⟨w.heap.size, 0, none⟩) [y] :=
  byts_lit [y] _ _ w rfl (by simp [bcells, h])
theorem enc_split {f u : Nat} (h : 128 ≤ u) : Cd.encF (f + 1) u = (u % 128 + 128) :: Cd.encF f (u / 128) := Cd.encF_go h
theorem OwnY.alloc {w : World} {B : Nat} {A : Option Addr} {cap : Nat} {l : List Nat} (h : OwnY w B A cap l) (o : Obj) : OwnY (w.alloc o) B A cap l := World.ownsRow.alloc h o

set_option maxRecDepth 100000 in
set_option maxHeartbeats 1000000 in
theorem rputInt_any (A : Option Addr) (c m : Nat) (l : List Nat) (n : Int) (h1 : -9223372036854775808 ≤ n) (h2 : n ≤ 9223372036854775807) (w : World) (hy : Byts w w.heap.size A l) (h0 : A = none → l = [] ∧ c = 0) (hm : l.length = m) (hl : m ≤ 900000)
    (R : List Nat) (N : Nat) (hR : l ++ Cd.enc (Cd.num n) = R) (hN : R.length = N) :
    Calls Try.prog 24 #[.slice A m c, .int .i64 n] w (GrowPost w N R) := by
  have hlt := Cd.num_lt h1 h2
  have HY := Lib.hid hy
  have H0 := Lib.hid h0
  have HM := Lib.hid hm
  have HR := Lib.hid hR
  have HN := Lib.hid hN
  have HNUM := Lib.hid (fun w0 => number_any n h1 h2 w0)
  obtain ⟨U, hU⟩ : ∃ U, U = Cd.num n := ⟨_, rfl⟩
  rw [← hU] at HNUM hlt HR
  clear hy h0 hm hR hN hU
  go_enter Try.func24, Try.ntmps24
  go_wp2_with (at_builtin; refine wpList_append_bytes rfl (.tmp 7) (.tmp 8) rfl w.heap.size _ _ 0 [] rfl rfl (OwnY.new w) _ m c l rfl HM.out (byts_after HY.out (below_new w _)) H0.out l m rfl HM.out (by omega) (below_new w _).size ?_; intro A1 cap1 w1 ho1 hb1; have hz1 := (below_new w _).trans hb1)
  refine (HNUM.out _).mono ?_
  rintro e w2 ⟨rfl, hb2⟩
  have hz2 := hz1.trans (hb2.mono hz1.size)
  have ho2 := ho1.below hb2
  have HO := Lib.hid ho2
  have HZ := Lib.hid hz2
  clear hb1 hb2 hz1 hz2 ho1 ho2
  go_wp2_with fail
  go_loopw [5, 6] (fun v x wr => ∃ (k u f : Nat) (pre T : List Nat) (A' : Option Addr) (cap' : Nat), x = .int .u64 u ∧ v = .slice A' T.length cap' ∧ pre.length = k ∧ f + k = 9 ∧ u * 128 ^ k < 18446744073709551616 ∧ Cd.enc U = pre ++ Cd.encF f u ∧ T = l ++ pre ∧
      OwnY wr w.heap.size A' cap' T ∧ Below w.heap.size w wr) (fun _ x _ => (intOf x).toNat)
  case atStart => exact ⟨0, U, 9, [], l, A1, cap1, rfl, by rw [HM.out], rfl, rfl, by simpa using hlt, rfl, by simp, HO.out, HZ.out⟩
  case round =>
    clear HO HZ
    obtain ⟨k, u, f, pre, T, A', cap', rfl, rfl, hpl, hf, hu, hE, hT, hown, hbel⟩ := hrel
    have hTl : T.length ≤ 900010 := by rw [hT, List.length_append, HM.out]; omega
    have hul : u < 18446744073709551616 := by
      have : u * 1 ≤ u * 128 ^ k := Nat.mul_le_mul_left _ (Nat.pow_pos (by decide))
      omega
    have HU := Lib.hid hu
    have HE := Lib.hid hE
    have HP := Lib.hid hpl
    have HT := Lib.hid hT
    have HOW := Lib.hid hown
    have HBE := Lib.hid hbel
    clear hu hE hpl hT hown hbel
    by_cases h128 : 128 ≤ u
    · have hk8 : f ≠ 0 := fun h => by
        have : k = 9 := by omega
        subst this
        have := HU.out
        rw [Cd.pow9] at this
        omega
      obtain ⟨f', rfl⟩ := Nat.exists_eq_succ_of_ne_zero hk8
      have HEN := Lib.hid (show Cd.enc U = (pre ++ [u % 128 + 128]) ++ Cd.encF f' (u / 128) by rw [HE.out, enc_split h128]; simp)
      have HUN := Lib.hid (show u / 128 * 128 ^ (k + 1) < 18446744073709551616 by
        have h3 := HU.out
        have h4 : u / 128 * 128 * 128 ^ k ≤ u * 128 ^ k := Nat.mul_le_mul_right _ (by omega)
        rw [Nat.pow_succ, Nat.mul_comm (128 ^ k) 128, ← Nat.mul_assoc]
        omega)
      clear hk8
      go_wp2_with (at_builtin; refine wpList_append_bytes rfl (.tmp 14) (.tmp 19) rfl w.heap.size _ _ T.length T rfl rfl (HOW.out.alloc _) _ 1 1 [u % 128 + 128] rfl rfl (byts_one wr _ _ (by omega)) (fun e => by cases e) (T ++ [u % 128 + 128]) (T.length + 1) rfl (by simp) (by omega) (Nat.le_trans HBE.out.size (below_new wr _).size) ?_; intro A3 cap3 w3 ho3 hb3)
      have HB3 := Lib.hid ((HBE.out.alloc HBE.out.size _).trans hb3)
      have HO3 := Lib.hid ho3
      clear hb3 ho3
      go_wp2_with fail
      go_roundw
      case rel => exact ⟨k + 1, u / 128, f', pre ++ [u % 128 + 128], T ++ [u % 128 + 128], A3, cap3, by go_num, by first | rfl | simp, by simp [HP.out], by omega, HUN.out, HEN.out, by rw [HT.out, List.append_assoc], HO3.out, HB3.out⟩
      case measure => simp [intOf]; omega
    · have HEN := Lib.hid (show Cd.enc U = pre ++ [u] by rw [HE.out, Cd.encF_stop (by omega)])
      go_wp2_with (at_builtin; refine wpList_append_bytes rfl (.tmp 23) (.tmp 26) rfl w.heap.size _ _ T.length T rfl rfl (HOW.out.alloc _) _ 1 1 [u] rfl rfl (byts_one wr _ _ (by omega)) (fun e => by cases e) (T ++ [u]) (T.length + 1) rfl (by simp) (by omega) (Nat.le_trans HBE.out.size (below_new wr _).size) ?_; intro A3 cap3 w3 ho3 hb3)
      have HB3 := Lib.hid ((HBE.out.alloc HBE.out.size _).trans hb3)
      have HO3 := Lib.hid ho3
      clear hb3 ho3
      go_wp2_with fail
      go_ret
      have e1 : T ++ [u] = R := by rw [HT.out, ← HR.out, HEN.out, List.append_assoc]
      have e2 : T.length + 1 = N := by rw [← HN.out, ← e1]; simp
      have ho4 := HO3.out
      rw [e1] at ho4
      exact ⟨A3, cap3, by rw [← e2]; rfl, ho4, HB3.out⟩
end Go.Proofs.Ytelanbiedfldgaa
