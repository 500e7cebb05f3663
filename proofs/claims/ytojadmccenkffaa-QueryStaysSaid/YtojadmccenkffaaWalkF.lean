/- The walks of of, Busy, and their fellows. -/
import Derived.Test.YtojadmccenkffaaWalkR
namespace Go.Proofs.Ytojadmccenkffaa
open Go.RowKit

def StsPost (w : World) (L : List Qr.St) (e : Ending) (w' : World) : Prop := ∃ A cap, e = .returned (.slice A L.length cap) ∧ OwnL scs 42 5 w' w.heap.size A cap L ∧ Below w.heap.size w w'
theorem take_snoc' {α : Type} {l : List α} {k : Nat} (h : k < l.length) : l.take (k + 1) = l.take k ++ [l[k]] := List.take_succ_eq_append_getElem h
theorem of_snoc {l : List Qr.St} {k : Nat} (h : k < l.length) (site index : Int) : Qr.of (l.take (k + 1)) site index = Qr.of (l.take k) site index ++ (if Qr.pick site index l[k] = true then [l[k]] else []) := by
  rw [take_snoc' h, Qr.of_append]
  congr 1
  unfold Qr.of
  simp only [List.filter_cons, List.filter_nil]
set_option maxRecDepth 100000 in
set_option maxHeartbeats 1000000 in
theorem of_any (A : Option Addr) (cap : Nat) (l : List Qr.St) (site index : Int) (w : World) (hr : RdL scs 5 w w.heap.size A l) (hl : l.length ≤ 1000) :
    Calls Try.prog 29 #[.slice A l.length cap, .int .i64 site, .int .i64 index] w (StsPost w (Qr.of l site index)) := by
  have HR := Lib.hid hr
  clear hr
  go_enter Try.func29, Try.ntmps29
  go_wp2_with fail
  go_loopw [7, 12] (fun v i wr => ∃ (k : Nat) (O : List Qr.St) (A' : Option Addr) (cap' : Nat), k ≤ l.length ∧ i = .int .i64 k ∧ v = .slice A' O.length cap' ∧ O = Qr.of (l.take k) site index ∧ O.length ≤ k ∧
      OwnL scs 42 5 wr w.heap.size A' cap' O ∧ Below w.heap.size w wr) (fun _ i _ => l.length - (intOf i).toNat)
  case atStart => exact ⟨0, [], none, 0, Nat.zero_le _, rfl, rfl, rfl, Nat.le_refl _, OwnL.nil _ _ _, Below.refl _ _⟩
  case round =>
    obtain ⟨k, O, A', cap', hk, rfl, rfl, hO, hOl, hown, hbel⟩ := hrel
    have HO := Lib.hid hO
    have HOW := Lib.hid hown
    have HBE := Lib.hid hbel
    clear hO hown hbel
    by_cases hlt : k < l.length
    · obtain ⟨b, off, rfl, hbl, hcell⟩ := (HR.out.below HBE.out) (by omega)
      have hc := hcell k hlt
      have hsn := of_snoc hlt site index
      obtain ⟨⟨a1, a2, a3, a4, a5⟩, hx⟩ : ∃ x, l[k] = x := ⟨_, rfl⟩
      rw [hx] at hc hsn
      have HS := Lib.hid hsn
      have c0 : wr.cell? ⟨b, off + k * 5, none⟩ = some (.int .i64 a1) := hc 0 _ rfl
      have c1 : wr.cell? ⟨b, off + k * 5 + 1, none⟩ = some (.int .i64 a2) := hc 1 _ rfl
      have c2 : wr.cell? ⟨b, off + k * 5 + 2, none⟩ = some (.int .i64 a3) := hc 2 _ rfl
      have c3 : wr.cell? ⟨b, off + k * 5 + 3, none⟩ = some (.int .i64 a4) := hc 3 _ rfl
      have c4 : wr.cell? ⟨b, off + k * 5 + 4, none⟩ = some (.int .i64 a5) := hc 4 _ rfl
      clear hc hcell hx hsn
      have hpk : Qr.pick site index ⟨a1, a2, a3, a4, a5⟩ = (Qr.agr site a1 && Qr.agr index a3) := rfl
      have BX := Lib.hid (below_box wr (.cells #[.int .i64 a1, .int .i64 a2, .int .i64 a3, .int .i64 a4, .int .i64 a5] 42))
      cases hp1 : Qr.agr site a1 with
      | false =>
        have HP := Lib.hid (show Qr.pick site index ⟨a1, a2, a3, a4, a5⟩ = false by rw [hpk, hp1]; rfl)
        clear hpk
        go_wp2_with fail
        refine (agrees_at site a1 false _ hp1).mono ?_
        rintro e w2 ⟨rfl, rfl⟩
        clear hp1
        go_wp2_with fail
        go_roundw
        case rel => exact ⟨k + 1, O, A', cap', by omega, by go_num, rfl, by rw [HS.out, if_neg (by rw [HP.out]; simp), List.append_nil]; exact HO.out, by omega, HOW.out.below (below_box wr _), HBE.out.trans ((below_box wr _).mono HBE.out.size)⟩
        case measure => simp [intOf]; omega
      | true =>
        have HP1 := Lib.hid hp1
        clear hp1
        cases hp2 : Qr.agr index a3 with
        | false =>
          have HP := Lib.hid (show Qr.pick site index ⟨a1, a2, a3, a4, a5⟩ = false by rw [hpk, HP1.out, hp2]; rfl)
          have HP2 := Lib.hid hp2
          clear hpk hp2
          go_wp2_with fail
          refine (agrees_at site a1 true _ HP1.out).mono ?_
          rintro e w2 ⟨rfl, rfl⟩
          go_wp2_with fail
          refine (agrees_at index a3 false _ HP2.out).mono ?_
          rintro e w2 ⟨rfl, rfl⟩
          go_wp2_with fail
          go_roundw
          case rel => exact ⟨k + 1, O, A', cap', by omega, by go_num, rfl, by rw [HS.out, if_neg (by rw [HP.out]; simp), List.append_nil]; exact HO.out, by omega, HOW.out.below (below_box wr _), HBE.out.trans ((below_box wr _).mono HBE.out.size)⟩
          case measure => simp [intOf]; omega
        | true =>
          have HP := Lib.hid (show Qr.pick site index ⟨a1, a2, a3, a4, a5⟩ = true by rw [hpk, HP1.out, hp2]; rfl)
          have HP2 := Lib.hid hp2
          clear hpk hp2
          go_wp2_with fail
          refine (agrees_at site a1 true _ HP1.out).mono ?_
          rintro e w2 ⟨rfl, rfl⟩
          go_wp2_with fail
          refine (agrees_at index a3 true _ HP2.out).mono ?_
          rintro e w2 ⟨rfl, rfl⟩
          go_wp2_with (at_builtin; refine wpList_append_el scs_ok Try.underlying37 Try.info42 rfl (by decide) rfl (.tmp 26) (.tmp 28) rfl O.length rfl rfl ((HOW.out.below BX.out).below (below_box _ _)) _ rfl ⟨a1, a2, a3, a4, a5⟩ (range_new (by simp) rfl) (by omega) (Nat.le_trans HBE.out.size (Nat.le_trans BX.out.size (below_box _ _).size)) (O.length + 1) rfl ?_; intro A3 cap3 w3 ho3 hb3 _)
          have HO3 := Lib.hid ho3
          have HB3 := Lib.hid ((HBE.out.trans ((BX.out.trans ((below_box _ _).mono BX.out.size)).mono HBE.out.size)).trans hb3)
          clear ho3 hb3
          go_wp2_with fail
          go_roundw
          case rel => exact ⟨k + 1, O ++ [⟨a1, a2, a3, a4, a5⟩], A3, cap3, by omega, by go_num, by first | rfl | simp, by rw [HS.out, if_pos HP.out, HO.out], by simp; omega, HO3.out, HB3.out⟩
          case measure => simp [intOf]; omega
    · have hks : k = l.length := by omega
      have HK := Lib.hid hks
      clear hks
      go_wp2_with fail
      go_ret
      have e1 : O = Qr.of l site index := by rw [HO.out, HK.out, List.take_length]
      rw [← e1]
      exact ⟨A', cap', rfl, HOW.out, HBE.out⟩
end Go.Proofs.Ytojadmccenkffaa
