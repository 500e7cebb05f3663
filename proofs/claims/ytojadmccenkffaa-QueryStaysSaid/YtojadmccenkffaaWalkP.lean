/- The walk of Stays, of the reference: what it computes. -/
import Derived.Test.YtojadmccenkffaaWalkO
namespace Go.Proofs.Ytojadmccenkffaa
open Go.RowKit

theorem own_apart {α β : Type} {c1 : α → List Value} {c2 : β → List Value} {T1 T2 s1 s2 : Nat} {w : World} {B1 B2 : Nat} {A1 A2 : Option Addr} {cap1 cap2 : Nat} {l1 : List α} {l2 : List β} (hT : T1 ≠ T2) (h1 : OwnL c1 T1 s1 w B1 A1 cap1 l1) (h2 : OwnL c2 T2 s2 w B2 A2 cap2 l2) (n c : Nat) : ∀ g, A2 = some ⟨g, 0, none⟩ → (Value.slice A1 n c).ownBlock ≠ some g := fun g hA e => by
  obtain ⟨cur2, e2⟩ := h2.type hA
  rcases h1.2 with ⟨hv, _⟩ | ⟨g', cap', cur, hv, _⟩
  · simp only [Value.slice.injEq] at hv
    obtain ⟨rfl, _⟩ := hv
    simp [Value.ownBlock] at e
  · simp only [Value.slice.injEq] at hv
    obtain ⟨rfl, _⟩ := hv
    simp [Value.ownBlock] at e
    subst e
    obtain ⟨cur1, e1⟩ := h1.type rfl
    rw [e1] at e2
    injection e2 with e2
    injection e2 with _ e2
    exact hT e2
set_option maxRecDepth 100000 in
set_option maxHeartbeats 8000000 in
theorem rstays_at (A : Option Addr) (n cap : Nat) (l : List Qr.Rc) (bg en : Int) (L : List Qr.St) (N : Nat) (w : World) (hr : RdL rcs 6 w w.heap.size A l) (hn : l.length = n) (hl : n ≤ 1000) (hL : Qr.stays l bg en = L) (hN : L.length = N) :
    Calls Try.prog 19 #[.slice A n cap, .int .i64 bg, .int .i64 en] w fun e w' => ∃ A cap, e = .returned (.slice A N cap) ∧ OwnL scs 42 5 w' w.heap.size A cap L ∧ Below w.heap.size w w' := by
  subst hn; subst hN
  have HR := Lib.hid hr
  have HLL := Lib.hid hL
  clear hr hL
  go_enter Try.func19, Try.ntmps19
  go_wp2_with fail
  go_loopw [7, 9, 10, 11] (fun x7 x9 x10 x11 wr => ∃ (k : Nat) (all : List (Qr.St × Bool)) (A1 A2 : Option Addr) (cap1 cap2 : Nat), k ≤ l.length ∧ x10 = .int .i64 k ∧ x7 = .slice A1 all.length cap1 ∧ x9 = .slice A2 all.length cap2 ∧ all = Qr.runS bg en [] (l.take k) ∧ all.length ≤ k ∧ RInv wr w.heap.size A1 A2 cap1 cap2 all ∧ Below w.heap.size w wr) (fun _ _ x _ _ => l.length - (intOf x).toNat)
  case atStart => exact ⟨0, [], none, none, 0, 0, Nat.zero_le _, rfl, rfl, rfl, rfl, Nat.le_refl _, ⟨OwnL.nil _ _ _, OwnL.nil _ _ _⟩, Below.refl _ _⟩
  case round =>
    obtain ⟨k, all, A1, A2, cap1, cap2, hk, rfl, rfl, rfl, hall, hlen, hinv, hbr⟩ := hrel
    have HA := Lib.hid hall
    have HI := Lib.hid hinv
    clear hall hinv
    by_cases hlt : k < l.length
    · obtain ⟨b, off, rfl, hbl, hcell⟩ := (HR.out.below hbr) (by omega)
      have hc := hcell k hlt
      have hsn := Qr.runS_snoc bg en hlt
      obtain ⟨⟨a0, a1, a2, a3, a4, a5⟩, hx⟩ : ∃ x, l[k] = x := ⟨_, rfl⟩
      rw [hx] at hc hsn
      have HS := Lib.hid hsn
      have c0 : wr.cell? ⟨b, off + k * 6, none⟩ = some (.int .i64 a0) := hc 0 _ rfl
      have c1 : wr.cell? ⟨b, off + k * 6 + 1, none⟩ = some (.int .i64 a1) := hc 1 _ rfl
      have c2 : wr.cell? ⟨b, off + k * 6 + 2, none⟩ = some (.int .i64 a2) := hc 2 _ rfl
      have c3 : wr.cell? ⟨b, off + k * 6 + 3, none⟩ = some (.int .i64 a3) := hc 3 _ rfl
      have c4 : wr.cell? ⟨b, off + k * 6 + 4, none⟩ = some (.int .i64 a4) := hc 4 _ rfl
      have c5 : wr.cell? ⟨b, off + k * 6 + 5, none⟩ = some (.int .i64 a5) := hc 5 _ rfl
      clear hc hcell hsn hx
      by_cases hwe : a2 = en
      · have hwe1 : (a2 == en) = true := by simpa using hwe
        cases hq : Qr.opensF ⟨a1, a3, a4⟩ 0 all with
        | nil =>
          have HQ : Hid ((⟨a0, a1, a2, a3, a4, a5⟩ : Qr.Rc).what = en → Qr.opensF ⟨a1, a3, a4⟩ 0 all = []) := Lib.hid fun _ => hq
          have HF := Lib.hid (show Qr.First ⟨a1, a3, a4⟩ all (-1) from .inl ⟨hq, rfl⟩)
          clear hq
          go_wp2_with fail
          refine (closes_any _ _ cap2 cap1 all.length all a0 a1 _ a3 a4 a5 (-1) _ (HI.out.opn.rd bcs_ok) (HI.out.all.rd scs_ok) rfl (by omega) HF.out).mono ?_
          rintro e w1 ⟨rfl, hb1⟩
          have HI1 := Lib.hid (HI.out.below hb1)
          have HB1 := Lib.hid (hbr.trans (hb1.mono hbr.size))
          have hbw1 := Nat.lt_of_lt_of_le hbl hbr.size
          have d0 : w1.cell? ⟨b, off + k * 6, none⟩ = some (.int .i64 a0) := (hb1.cell (p := ⟨b, _, none⟩) hbw1).trans c0
          have d1 : w1.cell? ⟨b, off + k * 6 + 1, none⟩ = some (.int .i64 a1) := (hb1.cell (p := ⟨b, _, none⟩) hbw1).trans c1
          have d2 : w1.cell? ⟨b, off + k * 6 + 2, none⟩ = some (.int .i64 a2) := (hb1.cell (p := ⟨b, _, none⟩) hbw1).trans c2
          have d3 : w1.cell? ⟨b, off + k * 6 + 3, none⟩ = some (.int .i64 a3) := (hb1.cell (p := ⟨b, _, none⟩) hbw1).trans c3
          have d4 : w1.cell? ⟨b, off + k * 6 + 4, none⟩ = some (.int .i64 a4) := (hb1.cell (p := ⟨b, _, none⟩) hbw1).trans c4
          have d5 : w1.cell? ⟨b, off + k * 6 + 5, none⟩ = some (.int .i64 a5) := (hb1.cell (p := ⟨b, _, none⟩) hbw1).trans c5
          clear c0 c1 c2 c3 c4 c5 hb1
          by_cases hwb : a2 = bg
          · have HST := Lib.hid (show Qr.stepS bg en all ⟨a0, a1, a2, a3, a4, a5⟩ = all ++ [(Qr.stay0 ⟨a0, a1, a2, a3, a4, a5⟩, false)] from Qr.stepS_push HQ.out hwb)
            have hwb1 : (a2 == bg) = true := by simpa using hwb
            clear hwb
            have HBX := Lib.hid (((below_box w1 (.cells #[.int .i64 a1, .int .i64 a3, .int .i64 a4, .int .i64 a0, .int .i64 0] 42)).mono HB1.out.size).drew)
            have HBX2 := Lib.hid ((below_box w1 (.cells #[.int .i64 a1, .int .i64 a3, .int .i64 a4, .int .i64 a0, .int .i64 0] 42)).drew)
            have HOX := Lib.hid (HI1.out.all.below HBX2.out)
            have HOBX := Lib.hid (HI1.out.opn.below HBX2.out)
            have HRG : Hid (((w1.alloc (.cells #[.int .i64 a1, .int .i64 a3, .int .i64 a4, .int .i64 a0, .int .i64 0] 42)).drew).rangeAt w1.heap.size 0 (scs ⟨a1, a3, a4, a0, 0⟩)) := Lib.hid (range_new (w := w1) (cs := #[.int .i64 a1, .int .i64 a3, .int .i64 a4, .int .i64 a0, .int .i64 0]) (t := 42) rfl rfl)
            have HSX := Lib.hid (Nat.le_trans HB1.out.size HBX.out.size)
            have HC : Hid (∀ W, Below w.heap.size w1 W → W.cell? ⟨b, off + k * 6, none⟩ = some (.int .i64 a0) ∧ W.cell? ⟨b, off + k * 6 + 1, none⟩ = some (.int .i64 a1) ∧ W.cell? ⟨b, off + k * 6 + 3, none⟩ = some (.int .i64 a3) ∧ W.cell? ⟨b, off + k * 6 + 4, none⟩ = some (.int .i64 a4)) := Lib.hid fun W h => ⟨(h.cell (p := ⟨b, _, none⟩) hbl).trans (by assumption), (h.cell (p := ⟨b, _, none⟩) hbl).trans (by assumption), (h.cell (p := ⟨b, _, none⟩) hbl).trans (by assumption), (h.cell (p := ⟨b, _, none⟩) hbl).trans (by assumption)⟩
            go_wp2_with fail
            refine wp_region_held_drew (S := fun W => W.cell? ⟨b, off + k * 6, none⟩ = some (.int .i64 a0) ∧ W.cell? ⟨b, off + k * 6 + 1, none⟩ = some (.int .i64 a1) ∧ W.cell? ⟨b, off + k * 6 + 3, none⟩ = some (.int .i64 a3) ∧ W.cell? ⟨b, off + k * 6 + 4, none⟩ = some (.int .i64 a4)) (by kernel_rfl) (HC.out _ (Below.refl _ _).drew) (fun hHeld => ?_)
            refine wpAnyH_take (i := 0) (v := ?_) at0 (by kernel_rfl) (by kernel_rfl) (by kernel_rfl) (fun _ _ _ h => h) (Or.inl ⟨by rfl, ?_⟩) (by assumption) ?_
            rotate_left
            · (intro w hSw; (try dsimp only at hSw); go_simp; first | done | with_reducible rfl)
            (try simp only [Act.put, List.setIfInBounds_toArray, List.set_cons_zero, List.set_cons_succ])
            refine wpAnyH_take (i := 1) (v := ?_) (atS <| at0) (by kernel_rfl) (by kernel_rfl) (by kernel_rfl) (fun _ _ _ h => h) (Or.inl ⟨by rfl, ?_⟩) (by assumption) ?_
            rotate_left
            · (intro w hSw; (try dsimp only at hSw); go_simp; first | done | with_reducible rfl)
            (try simp only [Act.put, List.setIfInBounds_toArray, List.set_cons_zero, List.set_cons_succ])
            refine wpAnyH_take (i := 2) (v := ?_) (atS <| atS <| at0) (by kernel_rfl) (by kernel_rfl) (by kernel_rfl) (fun _ _ _ h => h) (Or.inl ⟨by rfl, ?_⟩) (by assumption) ?_
            rotate_left
            · (intro w hSw; (try dsimp only at hSw); go_simp; first | done | with_reducible rfl)
            (try simp only [Act.put, List.setIfInBounds_toArray, List.set_cons_zero, List.set_cons_succ])
            refine wpAnyH_take (i := 3) (v := ?_) (atS <| atS <| atS <| at0) (by kernel_rfl) (by kernel_rfl) (by kernel_rfl) (fun _ _ _ h => h) (Or.inl ⟨by rfl, ?_⟩) (by assumption) ?_
            rotate_left
            · (intro w hSw; (try dsimp only at hSw); go_simp; first | done | with_reducible rfl)
            (try simp only [Act.put, List.setIfInBounds_toArray, List.set_cons_zero, List.set_cons_succ])
            refine wpAnyH_take (i := 4) (v := ?_) (atS <| atS <| atS <| atS <| at0) (by kernel_rfl) (by kernel_rfl) (by kernel_rfl) (fun _ _ _ h => h) (Or.inl ⟨by rfl, ?_⟩) (by assumption) ?_
            rotate_left
            · (intro w hSw; (try dsimp only at hSw); go_simp; first | done | with_reducible rfl)
            (try simp only [Act.put, List.setIfInBounds_toArray, List.set_cons_zero, List.set_cons_succ])
            refine wpAnyH_take (i := 5) (v := ?_) (atS <| atS <| atS <| atS <| atS <| at0) (by kernel_rfl) (by kernel_rfl) (by kernel_rfl) (fun _ _ _ h => h) (Or.inl ⟨by rfl, ?_⟩) (by assumption) ?_
            rotate_left
            · (intro w hSw; (try dsimp only at hSw); go_simp; first | done | with_reducible rfl)
            (try simp only [Act.put, List.setIfInBounds_toArray, List.set_cons_zero, List.set_cons_succ])
            refine wpAnyH_take (i := 6) (v := ?_) (atS <| atS <| atS <| atS <| atS <| atS <| at0) (by kernel_rfl) (by kernel_rfl) (by kernel_rfl) (fun _ _ _ h => h) (Or.inl ⟨by rfl, ?_⟩) (by assumption) ?_
            rotate_left
            · (intro w hSw; (try dsimp only at hSw); go_simp; first | done | with_reducible rfl)
            (try simp only [Act.put, List.setIfInBounds_toArray, List.set_cons_zero, List.set_cons_succ])
            refine wpAnyH_take (i := 7) (v := ?_) (atS <| atS <| atS <| atS <| atS <| atS <| atS <| at0) (by kernel_rfl) (by kernel_rfl) (by kernel_rfl) (fun _ _ _ h => h) (Or.inl ⟨by rfl, ?_⟩) (by assumption) ?_
            rotate_left
            · (intro w hSw; (try dsimp only at hSw); go_simp; first | done | with_reducible rfl)
            (try simp only [Act.put, List.setIfInBounds_toArray, List.set_cons_zero, List.set_cons_succ])
            refine wpAnyH_take (i := 8) (v := ?_) (atS <| atS <| atS <| atS <| atS <| atS <| atS <| atS <| at0) (by kernel_rfl) (by kernel_rfl) (by kernel_rfl) (fun _ _ _ h => h) (Or.inl ⟨by rfl, ?_⟩) (by assumption) ?_
            rotate_left
            · (intro w hSw; (try dsimp only at hSw); go_simp; first | done | with_reducible rfl)
            (try simp only [Act.put, List.setIfInBounds_toArray, List.set_cons_zero, List.set_cons_succ])
            refine wpAnyH_take (i := 9) (v := ?_) (atS <| atS <| atS <| atS <| atS <| atS <| atS <| atS <| atS <| at0) (by kernel_rfl) (by kernel_rfl) (by kernel_rfl) (fun _ _ _ h => h) (Or.inl ⟨by rfl, ?_⟩) (by assumption) ?_
            rotate_left
            · (intro w hSw; (try dsimp only at hSw); go_simp; first | done | with_reducible rfl)
            (try simp only [Act.put, List.setIfInBounds_toArray, List.set_cons_zero, List.set_cons_succ])
            refine wpAnyH_take (i := 10) (v := ?_) (atS <| atS <| atS <| atS <| atS <| atS <| atS <| atS <| atS <| atS <| at0) (by kernel_rfl) (by kernel_rfl) (by kernel_rfl) (fun _ _ _ h => h) (Or.inl ⟨by rfl, ?_⟩) (by assumption) ?_
            rotate_left
            · (intro w hSw; (try dsimp only at hSw); go_simp; first | done | with_reducible rfl)
            (try simp only [Act.put, List.setIfInBounds_toArray, List.set_cons_zero, List.set_cons_succ])
            refine wpAnyH_take (i := 11) (v := ?_) (atS <| atS <| atS <| atS <| atS <| atS <| atS <| atS <| atS <| atS <| atS <| at0) (by kernel_rfl) (by kernel_rfl) (by kernel_rfl) (fun _ _ _ h => h) (Or.inl ⟨by rfl, ?_⟩) (by assumption) ?_
            rotate_left
            · (intro w hSw; (try dsimp only at hSw); go_simp; first | done | with_reducible rfl)
            (try simp only [Act.put, List.setIfInBounds_toArray, List.set_cons_zero, List.set_cons_succ])
            refine wpAnyH_take (i := 12) (v := ?_) (atS <| atS <| atS <| atS <| atS <| atS <| atS <| atS <| atS <| atS <| atS <| atS <| at0) (by kernel_rfl) (by kernel_rfl) (by kernel_rfl) (fun _ _ _ h => h) (Or.inl ⟨by rfl, ?_⟩) (by assumption) ?_
            rotate_left
            · (intro w hSw; (try dsimp only at hSw); go_simp; first | done | with_reducible rfl)
            (try simp only [Act.put, List.setIfInBounds_toArray, List.set_cons_zero, List.set_cons_succ])
            refine wpAnyH_take (i := 13) (v := ?_) (atS <| atS <| atS <| atS <| atS <| atS <| atS <| atS <| atS <| atS <| atS <| atS <| atS <| at0) (by kernel_rfl) (by kernel_rfl) (by kernel_rfl) (fun _ _ _ h => h) (Or.inl ⟨by rfl, ?_⟩) (by assumption) ?_
            rotate_left
            · (intro w hSw; (try dsimp only at hSw); go_simp; first | done | with_reducible rfl)
            (try simp only [Act.put, List.setIfInBounds_toArray, List.set_cons_zero, List.set_cons_succ])
            refine wpAnyH_take (i := 14) (v := ?_) (atS <| atS <| atS <| atS <| atS <| atS <| atS <| atS <| atS <| atS <| atS <| atS <| atS <| atS <| at0) (by kernel_rfl) (by kernel_rfl) (by kernel_rfl) (fun _ _ _ h => h) (Or.inl ⟨by rfl, ?_⟩) (by assumption) ?_
            rotate_left
            · (intro w hSw; (try dsimp only at hSw); go_simp; first | done | with_reducible rfl)
            (try simp only [Act.put, List.setIfInBounds_toArray, List.set_cons_zero, List.set_cons_succ])
            refine wpAnyH_take (i := 15) (v := ?_) (atS <| atS <| atS <| atS <| atS <| atS <| atS <| atS <| atS <| atS <| atS <| atS <| atS <| atS <| atS <| at0) (by kernel_rfl) (by kernel_rfl) (by kernel_rfl) (fun _ _ _ h => h) (Or.inl ⟨by rfl, ?_⟩) (by assumption) ?_
            rotate_left
            · (intro w hSw; (try dsimp only at hSw); go_simp; first | done | with_reducible rfl)
            (try simp only [Act.put, List.setIfInBounds_toArray, List.set_cons_zero, List.set_cons_succ])
            refine wpAnyH_take (i := 16) (v := ?_) (atS <| atS <| atS <| atS <| atS <| atS <| atS <| atS <| atS <| atS <| atS <| atS <| atS <| atS <| atS <| atS <| at0) (by kernel_rfl) (by kernel_rfl) (by kernel_rfl) (fun _ _ _ h => h) (Or.inl ⟨by rfl, ?_⟩) (by assumption) ?_
            rotate_left
            · (intro w hSw; (try dsimp only at hSw); go_simp; first | done | with_reducible rfl)
            (try simp only [Act.put, List.setIfInBounds_toArray, List.set_cons_zero, List.set_cons_succ])
            refine wpAnyH_take (i := 17) (v := ?_) (atS <| atS <| atS <| atS <| atS <| atS <| atS <| atS <| atS <| atS <| atS <| atS <| atS <| atS <| atS <| atS <| atS <| at0) (by kernel_rfl) (by kernel_rfl) (by kernel_rfl) (fun _ _ _ h => h) (Or.inl ⟨by rfl, ?_⟩) (by assumption) ?_
            rotate_left
            · (intro w hSw; (try dsimp only at hSw); go_simp; first | done | with_reducible rfl)
            (try simp only [Act.put, List.setIfInBounds_toArray, List.set_cons_zero, List.set_cons_succ])
            refine wpAnyH_take (i := 18) (v := ?_) (atS <| atS <| atS <| atS <| atS <| atS <| atS <| atS <| atS <| atS <| atS <| atS <| atS <| atS <| atS <| atS <| atS <| atS <| at0) (by kernel_rfl) (by kernel_rfl) (by kernel_rfl) (fun _ _ _ h => h) (Or.inl ⟨by rfl, ?_⟩) (by assumption) ?_
            rotate_left
            · (intro w hSw; (try dsimp only at hSw); go_simp; first | done | with_reducible rfl)
            (try simp only [Act.put, List.setIfInBounds_toArray, List.set_cons_zero, List.set_cons_succ])
            refine wpAnyH_take (i := 19) (v := ?_) (atS <| atS <| atS <| atS <| atS <| atS <| atS <| atS <| atS <| atS <| atS <| atS <| atS <| atS <| atS <| atS <| atS <| atS <| atS <| at0) (by kernel_rfl) (by kernel_rfl) (by kernel_rfl) (fun _ _ _ h => h) (Or.inl ⟨by rfl, ?_⟩) (by assumption) ?_
            rotate_left
            · (intro w hSw; (try dsimp only at hSw); go_simp; first | done | with_reducible rfl)
            (try simp only [Act.put, List.setIfInBounds_toArray, List.set_cons_zero, List.set_cons_succ])
            refine wpAnyH_take (i := 20) (v := ?_) (atS <| atS <| atS <| atS <| atS <| atS <| atS <| atS <| atS <| atS <| atS <| atS <| atS <| atS <| atS <| atS <| atS <| atS <| atS <| atS <| at0) (by kernel_rfl) (by kernel_rfl) (by kernel_rfl) (fun _ _ _ h => h) (Or.inl ⟨by rfl, ?_⟩) (by assumption) ?_
            rotate_left
            · (intro w hSw; (try dsimp only at hSw); go_simp; first | done | with_reducible rfl)
            (try simp only [Act.put, List.setIfInBounds_toArray, List.set_cons_zero, List.set_cons_succ])
            refine wpAnyH_take (i := 21) (v := ?_) (atS <| atS <| atS <| atS <| atS <| atS <| atS <| atS <| atS <| atS <| atS <| atS <| atS <| atS <| atS <| atS <| atS <| atS <| atS <| atS <| atS <| at0) (by kernel_rfl) (by kernel_rfl) (by kernel_rfl) (fun _ _ _ h => h) (Or.inl ⟨by rfl, ?_⟩) (by assumption) ?_
            rotate_left
            · (intro w hSw; (try dsimp only at hSw); go_simp; first | done | with_reducible rfl)
            (try simp only [Act.put, List.setIfInBounds_toArray, List.set_cons_zero, List.set_cons_succ])
            refine wpAnyH_ready (rs := [22]) (by kernel_rfl) (by simp) ?_
            refine AllReadyH.cons (atS <| atS <| atS <| atS <| atS <| atS <| atS <| atS <| atS <| atS <| atS <| atS <| atS <| atS <| atS <| atS <| atS <| atS <| atS <| atS <| atS <| atS <| at0) (fun K hK => ?_) AllReadyH.nil
            go_simp
            refine hK.out _ _ (HC.out _ HBX.out) (fun hHeld1 => ?_)
            clear hK K hHeld
            have hHeld := hHeld1
            clear hHeld1
            (try simp only [Act.put, List.setIfInBounds_toArray, List.set_cons_zero, List.set_cons_succ])
            refine wpAnyH_ready (rs := [23]) (by kernel_rfl) (by simp) ?_
            refine AllReadyH.cons (atS <| atS <| atS <| atS <| atS <| atS <| atS <| atS <| atS <| atS <| atS <| atS <| atS <| atS <| atS <| atS <| atS <| atS <| atS <| atS <| atS <| atS <| atS <| at0) (fun K hK => ?_) AllReadyH.nil
            refine step_append_el scs_ok Try.underlying37 Try.info42 rfl (by decide) rfl (.tmp 54) (.tmp 76) rfl all.length rfl (by rw [List.length_map]) HOX.out w1.heap.size rfl ⟨a1, a3, a4, a0, 0⟩ HRG.out (by omega) HSX.out (all.length + 1) rfl ?_
            intro A7 cap7 w7 ho7 hb7 hg7
            have HO7 := Lib.hid ho7
            have HB7 := Lib.hid hb7
            have HG7 := Lib.hid hg7
            clear ho7 hb7 hg7
            refine hK.out _ _ (HC.out _ (HBX.out.trans HB7.out)) (fun hHeld2 => ?_)
            clear hK K hHeld
            have hHeld := hHeld2
            clear hHeld2
            (try simp only [Act.put, List.setIfInBounds_toArray, List.set_cons_zero, List.set_cons_succ])
            refine wpAnyH_take (i := 24) (v := ?_) (atS <| atS <| atS <| atS <| atS <| atS <| atS <| atS <| atS <| atS <| atS <| atS <| atS <| atS <| atS <| atS <| atS <| atS <| atS <| atS <| atS <| atS <| atS <| atS <| at0) (by kernel_rfl) (by kernel_rfl) (by kernel_rfl) (fun _ _ _ h => h) (Or.inl ⟨by rfl, ?_⟩) (by assumption) ?_
            rotate_left
            · (intro w hSw; (try dsimp only at hSw); go_simp; first | done | with_reducible rfl)
            (try simp only [Act.put, List.setIfInBounds_toArray, List.set_cons_zero, List.set_cons_succ])
            refine wpAnyH_done (by kernel_rfl) ?_ _
            have HOB7 := Lib.hid (HOBX.out.kept HG7.out (own_apart (by decide) HOX.out HOBX.out _ _))
            have HBW7 := Lib.hid ((HB1.out.trans HBX.out).trans HB7.out)
            have HBX8 := Lib.hid (below_box w7 (.cells #[.bool true] 4))
            go_wp2_with (at_builtin; refine wpList_append_el bcs_ok Try.underlying56 Try.info4 rfl (by decide) rfl (.tmp 78) (.tmp 79) rfl all.length rfl (by rw [List.length_map]) (HOB7.out.below (below_box _ _)) _ rfl true (range_new rfl rfl) (by omega) (Nat.le_trans HBW7.out.size (below_box _ _).size) (all.length + 1) rfl ?_; intro A8 cap8 w8 ho8 hb8 hg8)
            have HRI8 : Hid (RInv w8 w.heap.size A7 A8 cap7 cap8 (all ++ [(Qr.stay0 ⟨a0, a1, a2, a3, a4, a5⟩, false)])) := Lib.hid ⟨by
              rw [List.map_append]
              exact (HO7.out.below HBX8.out).kept hg8 (own_apart (by decide) (HOB7.out.below HBX8.out) (HO7.out.below HBX8.out) _ _), by
              rw [List.map_append]
              exact ho8⟩
            have HBW8 := Lib.hid ((HBW7.out.trans (HBX8.out.mono HBW7.out.size)).trans hb8)
            clear ho8 hb8 hg8
            go_wp2_with fail
            go_roundw
            case rel => exact ⟨k + 1, all ++ [(Qr.stay0 ⟨a0, a1, a2, a3, a4, a5⟩, false)], A7, A8, cap7, cap8, by omega, by go_num, by first | rfl | simp, by first | rfl | simp, by rw [HS.out, ← HA.out, HST.out], by simp; omega, HRI8.out, HBW8.out⟩
            case measure => simp [intOf]; omega
          · have HST := Lib.hid (show Qr.stepS bg en all ⟨a0, a1, a2, a3, a4, a5⟩ = all from Qr.stepS_none HQ.out hwb)
            have hwb1 : (a2 == bg) = false := by simpa using hwb
            clear hwb
            go_wp2_with fail
            go_roundw
            case rel => exact ⟨k + 1, all, A1, A2, cap1, cap2, by omega, by go_num, rfl, rfl, by rw [HS.out, ← HA.out, HST.out], by omega, HI1.out, HB1.out⟩
            case measure => simp [intOf]; omega
        | cons z zs =>
          have hzl := (Qr.opensF_lt ⟨a1, a3, a4⟩ all 0 z (by rw [hq]; simp)).2
          rw [Nat.zero_add] at hzl
          have HST := Lib.hid (show Qr.stepS bg en all ⟨a0, a1, a2, a3, a4, a5⟩ = Qr.closeAt z a0 all from Qr.stepS_pop hwe hq)
          have HF := Lib.hid (show Qr.First ⟨a1, a3, a4⟩ all (z : Int) from .inr ⟨z, zs, hq, rfl⟩)
          clear hq
          obtain ⟨g, rfl, hgB, hgw⟩ := HI.out.all.shape (by rw [List.length_map]; omega)
          obtain ⟨g2, rfl, hgB2, hgw2⟩ := HI.out.opn.shape (by rw [List.length_map]; omega)
          go_wp2_with fail
          refine (closes_any _ _ cap2 cap1 all.length all a0 a1 _ a3 a4 a5 z _ (HI.out.opn.rd bcs_ok) (HI.out.all.rd scs_ok) rfl (by omega) HF.out).mono ?_
          rintro e w1 ⟨rfl, hb1⟩
          have HI1 := Lib.hid (HI.out.below hb1)
          have HB1 := Lib.hid (hbr.trans (hb1.mono hbr.size))
          have hbw1 := Nat.lt_of_lt_of_le hbl hbr.size
          have d0 : w1.cell? ⟨b, off + k * 6, none⟩ = some (.int .i64 a0) := (hb1.cell (p := ⟨b, _, none⟩) hbw1).trans c0
          have d1 : w1.cell? ⟨b, off + k * 6 + 1, none⟩ = some (.int .i64 a1) := (hb1.cell (p := ⟨b, _, none⟩) hbw1).trans c1
          have d2 : w1.cell? ⟨b, off + k * 6 + 2, none⟩ = some (.int .i64 a2) := (hb1.cell (p := ⟨b, _, none⟩) hbw1).trans c2
          have d3 : w1.cell? ⟨b, off + k * 6 + 3, none⟩ = some (.int .i64 a3) := (hb1.cell (p := ⟨b, _, none⟩) hbw1).trans c3
          have d4 : w1.cell? ⟨b, off + k * 6 + 4, none⟩ = some (.int .i64 a4) := (hb1.cell (p := ⟨b, _, none⟩) hbw1).trans c4
          have d5 : w1.cell? ⟨b, off + k * 6 + 5, none⟩ = some (.int .i64 a5) := (hb1.cell (p := ⟨b, _, none⟩) hbw1).trans c5
          clear c0 c1 c2 c3 c4 c5 hb1
          have hne := HI1.out.apart rfl rfl
          obtain ⟨cur, hcur⟩ := HI1.out.all.type rfl
          obtain ⟨cur2, hcur2⟩ := HI1.out.opn.type rfl
          obtain ⟨u2, co⟩ : ∃ v, w1.cell? ⟨g2, z, none⟩ = some v := by
            obtain ⟨b', off', e', _, hc'⟩ := HI1.out.opn.rd bcs_ok (by rw [List.length_map]; omega)
            cases e'
            have := hc' z (by rw [List.length_map]; omega) 0 _ rfl
            exact ⟨_, by simpa using this⟩
          obtain ⟨u1, cs⟩ : ∃ v, w1.cell? ⟨g, z * 5 + 4, none⟩ = some v := by
            obtain ⟨b', off', e', _, hc'⟩ := HI1.out.all.rd scs_ok (by rw [List.length_map]; omega)
            cases e'
            have := hc' z (by rw [List.length_map]; omega) 4 _ rfl
            exact ⟨_, by simpa using this⟩
          have fo : w1.frozen? ⟨g2, z, none⟩ = false := free_heap hcur2 z
          have cs2 : (w1.setCell ⟨g2, z, none⟩ (.bool false)).cell? ⟨g, z * 5 + 4, none⟩ = some u1 := (cell_block (heap_set_other hne _) _).trans cs
          have fs2 : (w1.setCell ⟨g2, z, none⟩ (.bool false)).frozen? ⟨g, z * 5 + 4, none⟩ = false := (free_block (heap_set_other hne _) _).trans (free_heap hcur _)
          have hbg2 : b ≠ g2 := by omega
          have e0 : (w1.setCell ⟨g2, z, none⟩ (.bool false)).cell? ⟨b, off + k * 6, none⟩ = some (.int .i64 a0) := (cell_block (heap_set_other hbg2 _) _).trans d0
          have HP := Lib.hid (HI1.out.pop z hzl a0)
          have HBP := Lib.hid ((HB1.out.grown (grown_set w1 g2 z (.bool false)) HB1.out.size (fun _ e => by cases e; exact hgB2)).grown (grown_set _ g (z * 5 + 4) (.int .i64 a0)) (Nat.le_trans HB1.out.size (grown_set w1 g2 z (.bool false)).size) (fun _ e => by cases e; exact hgB))
          clear cs hcur hcur2
          go_wp2_with fail
          go_roundw
          case rel => exact ⟨k + 1, Qr.closeAt z a0 all, some ⟨g, 0, none⟩, some ⟨g2, 0, none⟩, cap1, cap2, by omega, by go_num, by rw [Qr.closeAt_len], by rw [Qr.closeAt_len], by rw [HS.out, ← HA.out, HST.out], by rw [Qr.closeAt_len]; omega, HP.out, HBP.out⟩
          case measure => simp [intOf]; omega
      · have hwe1 : (a2 == en) = false := by simpa using hwe
        have HQ : Hid ((⟨a0, a1, a2, a3, a4, a5⟩ : Qr.Rc).what = en → Qr.opensF ⟨a1, a3, a4⟩ 0 all = []) := Lib.hid fun h => absurd h hwe
        have HBR := Lib.hid hbr
        by_cases hwb : a2 = bg
        · have HST := Lib.hid (show Qr.stepS bg en all ⟨a0, a1, a2, a3, a4, a5⟩ = all ++ [(Qr.stay0 ⟨a0, a1, a2, a3, a4, a5⟩, false)] from Qr.stepS_push HQ.out hwb)
          have hwb1 : (a2 == bg) = true := by simpa using hwb
          clear hwb
          have HBX := Lib.hid (((below_box wr (.cells #[.int .i64 a1, .int .i64 a3, .int .i64 a4, .int .i64 a0, .int .i64 0] 42)).mono HBR.out.size).drew)
          have HBX2 := Lib.hid ((below_box wr (.cells #[.int .i64 a1, .int .i64 a3, .int .i64 a4, .int .i64 a0, .int .i64 0] 42)).drew)
          have HOX := Lib.hid (HI.out.all.below HBX2.out)
          have HOBX := Lib.hid (HI.out.opn.below HBX2.out)
          have HRG : Hid (((wr.alloc (.cells #[.int .i64 a1, .int .i64 a3, .int .i64 a4, .int .i64 a0, .int .i64 0] 42)).drew).rangeAt wr.heap.size 0 (scs ⟨a1, a3, a4, a0, 0⟩)) := Lib.hid (range_new (w := wr) (cs := #[.int .i64 a1, .int .i64 a3, .int .i64 a4, .int .i64 a0, .int .i64 0]) (t := 42) rfl rfl)
          have HSX := Lib.hid (Nat.le_trans HBR.out.size HBX.out.size)
          have HC : Hid (∀ W, Below w.heap.size wr W → W.cell? ⟨b, off + k * 6, none⟩ = some (.int .i64 a0) ∧ W.cell? ⟨b, off + k * 6 + 1, none⟩ = some (.int .i64 a1) ∧ W.cell? ⟨b, off + k * 6 + 3, none⟩ = some (.int .i64 a3) ∧ W.cell? ⟨b, off + k * 6 + 4, none⟩ = some (.int .i64 a4)) := Lib.hid fun W h => ⟨(h.cell (p := ⟨b, _, none⟩) hbl).trans (by assumption), (h.cell (p := ⟨b, _, none⟩) hbl).trans (by assumption), (h.cell (p := ⟨b, _, none⟩) hbl).trans (by assumption), (h.cell (p := ⟨b, _, none⟩) hbl).trans (by assumption)⟩
          go_wp2_with fail
          refine wp_region_held_drew (S := fun W => W.cell? ⟨b, off + k * 6, none⟩ = some (.int .i64 a0) ∧ W.cell? ⟨b, off + k * 6 + 1, none⟩ = some (.int .i64 a1) ∧ W.cell? ⟨b, off + k * 6 + 3, none⟩ = some (.int .i64 a3) ∧ W.cell? ⟨b, off + k * 6 + 4, none⟩ = some (.int .i64 a4)) (by kernel_rfl) (HC.out _ (Below.refl _ _).drew) (fun hHeld => ?_)
          refine wpAnyH_take (i := 0) (v := ?_) at0 (by kernel_rfl) (by kernel_rfl) (by kernel_rfl) (fun _ _ _ h => h) (Or.inl ⟨by rfl, ?_⟩) (by assumption) ?_
          rotate_left
          · (intro w hSw; (try dsimp only at hSw); go_simp; first | done | with_reducible rfl)
          (try simp only [Act.put, List.setIfInBounds_toArray, List.set_cons_zero, List.set_cons_succ])
          refine wpAnyH_take (i := 1) (v := ?_) (atS <| at0) (by kernel_rfl) (by kernel_rfl) (by kernel_rfl) (fun _ _ _ h => h) (Or.inl ⟨by rfl, ?_⟩) (by assumption) ?_
          rotate_left
          · (intro w hSw; (try dsimp only at hSw); go_simp; first | done | with_reducible rfl)
          (try simp only [Act.put, List.setIfInBounds_toArray, List.set_cons_zero, List.set_cons_succ])
          refine wpAnyH_take (i := 2) (v := ?_) (atS <| atS <| at0) (by kernel_rfl) (by kernel_rfl) (by kernel_rfl) (fun _ _ _ h => h) (Or.inl ⟨by rfl, ?_⟩) (by assumption) ?_
          rotate_left
          · (intro w hSw; (try dsimp only at hSw); go_simp; first | done | with_reducible rfl)
          (try simp only [Act.put, List.setIfInBounds_toArray, List.set_cons_zero, List.set_cons_succ])
          refine wpAnyH_take (i := 3) (v := ?_) (atS <| atS <| atS <| at0) (by kernel_rfl) (by kernel_rfl) (by kernel_rfl) (fun _ _ _ h => h) (Or.inl ⟨by rfl, ?_⟩) (by assumption) ?_
          rotate_left
          · (intro w hSw; (try dsimp only at hSw); go_simp; first | done | with_reducible rfl)
          (try simp only [Act.put, List.setIfInBounds_toArray, List.set_cons_zero, List.set_cons_succ])
          refine wpAnyH_take (i := 4) (v := ?_) (atS <| atS <| atS <| atS <| at0) (by kernel_rfl) (by kernel_rfl) (by kernel_rfl) (fun _ _ _ h => h) (Or.inl ⟨by rfl, ?_⟩) (by assumption) ?_
          rotate_left
          · (intro w hSw; (try dsimp only at hSw); go_simp; first | done | with_reducible rfl)
          (try simp only [Act.put, List.setIfInBounds_toArray, List.set_cons_zero, List.set_cons_succ])
          refine wpAnyH_take (i := 5) (v := ?_) (atS <| atS <| atS <| atS <| atS <| at0) (by kernel_rfl) (by kernel_rfl) (by kernel_rfl) (fun _ _ _ h => h) (Or.inl ⟨by rfl, ?_⟩) (by assumption) ?_
          rotate_left
          · (intro w hSw; (try dsimp only at hSw); go_simp; first | done | with_reducible rfl)
          (try simp only [Act.put, List.setIfInBounds_toArray, List.set_cons_zero, List.set_cons_succ])
          refine wpAnyH_take (i := 6) (v := ?_) (atS <| atS <| atS <| atS <| atS <| atS <| at0) (by kernel_rfl) (by kernel_rfl) (by kernel_rfl) (fun _ _ _ h => h) (Or.inl ⟨by rfl, ?_⟩) (by assumption) ?_
          rotate_left
          · (intro w hSw; (try dsimp only at hSw); go_simp; first | done | with_reducible rfl)
          (try simp only [Act.put, List.setIfInBounds_toArray, List.set_cons_zero, List.set_cons_succ])
          refine wpAnyH_take (i := 7) (v := ?_) (atS <| atS <| atS <| atS <| atS <| atS <| atS <| at0) (by kernel_rfl) (by kernel_rfl) (by kernel_rfl) (fun _ _ _ h => h) (Or.inl ⟨by rfl, ?_⟩) (by assumption) ?_
          rotate_left
          · (intro w hSw; (try dsimp only at hSw); go_simp; first | done | with_reducible rfl)
          (try simp only [Act.put, List.setIfInBounds_toArray, List.set_cons_zero, List.set_cons_succ])
          refine wpAnyH_take (i := 8) (v := ?_) (atS <| atS <| atS <| atS <| atS <| atS <| atS <| atS <| at0) (by kernel_rfl) (by kernel_rfl) (by kernel_rfl) (fun _ _ _ h => h) (Or.inl ⟨by rfl, ?_⟩) (by assumption) ?_
          rotate_left
          · (intro w hSw; (try dsimp only at hSw); go_simp; first | done | with_reducible rfl)
          (try simp only [Act.put, List.setIfInBounds_toArray, List.set_cons_zero, List.set_cons_succ])
          refine wpAnyH_take (i := 9) (v := ?_) (atS <| atS <| atS <| atS <| atS <| atS <| atS <| atS <| atS <| at0) (by kernel_rfl) (by kernel_rfl) (by kernel_rfl) (fun _ _ _ h => h) (Or.inl ⟨by rfl, ?_⟩) (by assumption) ?_
          rotate_left
          · (intro w hSw; (try dsimp only at hSw); go_simp; first | done | with_reducible rfl)
          (try simp only [Act.put, List.setIfInBounds_toArray, List.set_cons_zero, List.set_cons_succ])
          refine wpAnyH_take (i := 10) (v := ?_) (atS <| atS <| atS <| atS <| atS <| atS <| atS <| atS <| atS <| atS <| at0) (by kernel_rfl) (by kernel_rfl) (by kernel_rfl) (fun _ _ _ h => h) (Or.inl ⟨by rfl, ?_⟩) (by assumption) ?_
          rotate_left
          · (intro w hSw; (try dsimp only at hSw); go_simp; first | done | with_reducible rfl)
          (try simp only [Act.put, List.setIfInBounds_toArray, List.set_cons_zero, List.set_cons_succ])
          refine wpAnyH_take (i := 11) (v := ?_) (atS <| atS <| atS <| atS <| atS <| atS <| atS <| atS <| atS <| atS <| atS <| at0) (by kernel_rfl) (by kernel_rfl) (by kernel_rfl) (fun _ _ _ h => h) (Or.inl ⟨by rfl, ?_⟩) (by assumption) ?_
          rotate_left
          · (intro w hSw; (try dsimp only at hSw); go_simp; first | done | with_reducible rfl)
          (try simp only [Act.put, List.setIfInBounds_toArray, List.set_cons_zero, List.set_cons_succ])
          refine wpAnyH_take (i := 12) (v := ?_) (atS <| atS <| atS <| atS <| atS <| atS <| atS <| atS <| atS <| atS <| atS <| atS <| at0) (by kernel_rfl) (by kernel_rfl) (by kernel_rfl) (fun _ _ _ h => h) (Or.inl ⟨by rfl, ?_⟩) (by assumption) ?_
          rotate_left
          · (intro w hSw; (try dsimp only at hSw); go_simp; first | done | with_reducible rfl)
          (try simp only [Act.put, List.setIfInBounds_toArray, List.set_cons_zero, List.set_cons_succ])
          refine wpAnyH_take (i := 13) (v := ?_) (atS <| atS <| atS <| atS <| atS <| atS <| atS <| atS <| atS <| atS <| atS <| atS <| atS <| at0) (by kernel_rfl) (by kernel_rfl) (by kernel_rfl) (fun _ _ _ h => h) (Or.inl ⟨by rfl, ?_⟩) (by assumption) ?_
          rotate_left
          · (intro w hSw; (try dsimp only at hSw); go_simp; first | done | with_reducible rfl)
          (try simp only [Act.put, List.setIfInBounds_toArray, List.set_cons_zero, List.set_cons_succ])
          refine wpAnyH_take (i := 14) (v := ?_) (atS <| atS <| atS <| atS <| atS <| atS <| atS <| atS <| atS <| atS <| atS <| atS <| atS <| atS <| at0) (by kernel_rfl) (by kernel_rfl) (by kernel_rfl) (fun _ _ _ h => h) (Or.inl ⟨by rfl, ?_⟩) (by assumption) ?_
          rotate_left
          · (intro w hSw; (try dsimp only at hSw); go_simp; first | done | with_reducible rfl)
          (try simp only [Act.put, List.setIfInBounds_toArray, List.set_cons_zero, List.set_cons_succ])
          refine wpAnyH_take (i := 15) (v := ?_) (atS <| atS <| atS <| atS <| atS <| atS <| atS <| atS <| atS <| atS <| atS <| atS <| atS <| atS <| atS <| at0) (by kernel_rfl) (by kernel_rfl) (by kernel_rfl) (fun _ _ _ h => h) (Or.inl ⟨by rfl, ?_⟩) (by assumption) ?_
          rotate_left
          · (intro w hSw; (try dsimp only at hSw); go_simp; first | done | with_reducible rfl)
          (try simp only [Act.put, List.setIfInBounds_toArray, List.set_cons_zero, List.set_cons_succ])
          refine wpAnyH_take (i := 16) (v := ?_) (atS <| atS <| atS <| atS <| atS <| atS <| atS <| atS <| atS <| atS <| atS <| atS <| atS <| atS <| atS <| atS <| at0) (by kernel_rfl) (by kernel_rfl) (by kernel_rfl) (fun _ _ _ h => h) (Or.inl ⟨by rfl, ?_⟩) (by assumption) ?_
          rotate_left
          · (intro w hSw; (try dsimp only at hSw); go_simp; first | done | with_reducible rfl)
          (try simp only [Act.put, List.setIfInBounds_toArray, List.set_cons_zero, List.set_cons_succ])
          refine wpAnyH_take (i := 17) (v := ?_) (atS <| atS <| atS <| atS <| atS <| atS <| atS <| atS <| atS <| atS <| atS <| atS <| atS <| atS <| atS <| atS <| atS <| at0) (by kernel_rfl) (by kernel_rfl) (by kernel_rfl) (fun _ _ _ h => h) (Or.inl ⟨by rfl, ?_⟩) (by assumption) ?_
          rotate_left
          · (intro w hSw; (try dsimp only at hSw); go_simp; first | done | with_reducible rfl)
          (try simp only [Act.put, List.setIfInBounds_toArray, List.set_cons_zero, List.set_cons_succ])
          refine wpAnyH_take (i := 18) (v := ?_) (atS <| atS <| atS <| atS <| atS <| atS <| atS <| atS <| atS <| atS <| atS <| atS <| atS <| atS <| atS <| atS <| atS <| atS <| at0) (by kernel_rfl) (by kernel_rfl) (by kernel_rfl) (fun _ _ _ h => h) (Or.inl ⟨by rfl, ?_⟩) (by assumption) ?_
          rotate_left
          · (intro w hSw; (try dsimp only at hSw); go_simp; first | done | with_reducible rfl)
          (try simp only [Act.put, List.setIfInBounds_toArray, List.set_cons_zero, List.set_cons_succ])
          refine wpAnyH_take (i := 19) (v := ?_) (atS <| atS <| atS <| atS <| atS <| atS <| atS <| atS <| atS <| atS <| atS <| atS <| atS <| atS <| atS <| atS <| atS <| atS <| atS <| at0) (by kernel_rfl) (by kernel_rfl) (by kernel_rfl) (fun _ _ _ h => h) (Or.inl ⟨by rfl, ?_⟩) (by assumption) ?_
          rotate_left
          · (intro w hSw; (try dsimp only at hSw); go_simp; first | done | with_reducible rfl)
          (try simp only [Act.put, List.setIfInBounds_toArray, List.set_cons_zero, List.set_cons_succ])
          refine wpAnyH_take (i := 20) (v := ?_) (atS <| atS <| atS <| atS <| atS <| atS <| atS <| atS <| atS <| atS <| atS <| atS <| atS <| atS <| atS <| atS <| atS <| atS <| atS <| atS <| at0) (by kernel_rfl) (by kernel_rfl) (by kernel_rfl) (fun _ _ _ h => h) (Or.inl ⟨by rfl, ?_⟩) (by assumption) ?_
          rotate_left
          · (intro w hSw; (try dsimp only at hSw); go_simp; first | done | with_reducible rfl)
          (try simp only [Act.put, List.setIfInBounds_toArray, List.set_cons_zero, List.set_cons_succ])
          refine wpAnyH_take (i := 21) (v := ?_) (atS <| atS <| atS <| atS <| atS <| atS <| atS <| atS <| atS <| atS <| atS <| atS <| atS <| atS <| atS <| atS <| atS <| atS <| atS <| atS <| atS <| at0) (by kernel_rfl) (by kernel_rfl) (by kernel_rfl) (fun _ _ _ h => h) (Or.inl ⟨by rfl, ?_⟩) (by assumption) ?_
          rotate_left
          · (intro w hSw; (try dsimp only at hSw); go_simp; first | done | with_reducible rfl)
          (try simp only [Act.put, List.setIfInBounds_toArray, List.set_cons_zero, List.set_cons_succ])
          refine wpAnyH_ready (rs := [22]) (by kernel_rfl) (by simp) ?_
          refine AllReadyH.cons (atS <| atS <| atS <| atS <| atS <| atS <| atS <| atS <| atS <| atS <| atS <| atS <| atS <| atS <| atS <| atS <| atS <| atS <| atS <| atS <| atS <| atS <| at0) (fun K hK => ?_) AllReadyH.nil
          go_simp
          refine hK.out _ _ (HC.out _ HBX.out) (fun hHeld3 => ?_)
          clear hK K hHeld
          have hHeld := hHeld3
          clear hHeld3
          (try simp only [Act.put, List.setIfInBounds_toArray, List.set_cons_zero, List.set_cons_succ])
          refine wpAnyH_ready (rs := [23]) (by kernel_rfl) (by simp) ?_
          refine AllReadyH.cons (atS <| atS <| atS <| atS <| atS <| atS <| atS <| atS <| atS <| atS <| atS <| atS <| atS <| atS <| atS <| atS <| atS <| atS <| atS <| atS <| atS <| atS <| atS <| at0) (fun K hK => ?_) AllReadyH.nil
          refine step_append_el scs_ok Try.underlying37 Try.info42 rfl (by decide) rfl (.tmp 54) (.tmp 76) rfl all.length rfl (by rw [List.length_map]) HOX.out wr.heap.size rfl ⟨a1, a3, a4, a0, 0⟩ HRG.out (by omega) HSX.out (all.length + 1) rfl ?_
          intro A7 cap7 w7 ho7 hb7 hg7
          have HO7 := Lib.hid ho7
          have HB7 := Lib.hid hb7
          have HG7 := Lib.hid hg7
          clear ho7 hb7 hg7
          refine hK.out _ _ (HC.out _ (HBX.out.trans HB7.out)) (fun hHeld4 => ?_)
          clear hK K hHeld
          have hHeld := hHeld4
          clear hHeld4
          (try simp only [Act.put, List.setIfInBounds_toArray, List.set_cons_zero, List.set_cons_succ])
          refine wpAnyH_take (i := 24) (v := ?_) (atS <| atS <| atS <| atS <| atS <| atS <| atS <| atS <| atS <| atS <| atS <| atS <| atS <| atS <| atS <| atS <| atS <| atS <| atS <| atS <| atS <| atS <| atS <| atS <| at0) (by kernel_rfl) (by kernel_rfl) (by kernel_rfl) (fun _ _ _ h => h) (Or.inl ⟨by rfl, ?_⟩) (by assumption) ?_
          rotate_left
          · (intro w hSw; (try dsimp only at hSw); go_simp; first | done | with_reducible rfl)
          (try simp only [Act.put, List.setIfInBounds_toArray, List.set_cons_zero, List.set_cons_succ])
          refine wpAnyH_done (by kernel_rfl) ?_ _
          have HOB7 := Lib.hid (HOBX.out.kept HG7.out (own_apart (by decide) HOX.out HOBX.out _ _))
          have HBW7 := Lib.hid ((HBR.out.trans HBX.out).trans HB7.out)
          have HBX8 := Lib.hid (below_box w7 (.cells #[.bool true] 4))
          go_wp2_with (at_builtin; refine wpList_append_el bcs_ok Try.underlying56 Try.info4 rfl (by decide) rfl (.tmp 78) (.tmp 79) rfl all.length rfl (by rw [List.length_map]) (HOB7.out.below (below_box _ _)) _ rfl true (range_new rfl rfl) (by omega) (Nat.le_trans HBW7.out.size (below_box _ _).size) (all.length + 1) rfl ?_; intro A8 cap8 w8 ho8 hb8 hg8)
          have HRI8 : Hid (RInv w8 w.heap.size A7 A8 cap7 cap8 (all ++ [(Qr.stay0 ⟨a0, a1, a2, a3, a4, a5⟩, false)])) := Lib.hid ⟨by
            rw [List.map_append]
            exact (HO7.out.below HBX8.out).kept hg8 (own_apart (by decide) (HOB7.out.below HBX8.out) (HO7.out.below HBX8.out) _ _), by
            rw [List.map_append]
            exact ho8⟩
          have HBW8 := Lib.hid ((HBW7.out.trans (HBX8.out.mono HBW7.out.size)).trans hb8)
          clear ho8 hb8 hg8
          go_wp2_with fail
          go_roundw
          case rel => exact ⟨k + 1, all ++ [(Qr.stay0 ⟨a0, a1, a2, a3, a4, a5⟩, false)], A7, A8, cap7, cap8, by omega, by go_num, by first | rfl | simp, by first | rfl | simp, by rw [HS.out, ← HA.out, HST.out], by simp; omega, HRI8.out, HBW8.out⟩
          case measure => simp [intOf]; omega
        · have HST := Lib.hid (show Qr.stepS bg en all ⟨a0, a1, a2, a3, a4, a5⟩ = all from Qr.stepS_none HQ.out hwb)
          have hwb1 : (a2 == bg) = false := by simpa using hwb
          clear hwb
          go_wp2_with fail
          go_roundw
          case rel => exact ⟨k + 1, all, A1, A2, cap1, cap2, by omega, by go_num, rfl, rfl, by rw [HS.out, ← HA.out, HST.out], by omega, HI.out, HBR.out⟩
          case measure => simp [intOf]; omega
    · have hkl : k = l.length := by omega
      subst hkl
      rw [List.take_length] at HA
      go_wp2_with fail
      have HBR := Lib.hid hbr
      obtain ⟨wz, hwz⟩ : ∃ W, W = wr := ⟨_, rfl⟩
      go_loopw [8, 12] (fun v i wr2 => ∃ (j : Nat) (O : List Qr.St) (A9 : Option Addr) (cap9 : Nat), j ≤ all.length ∧ i = .int .i64 j ∧ v = .slice A9 O.length cap9 ∧ O = Qr.outS (all.take j) ∧ O.length ≤ j ∧
          OwnL scs 42 5 wr2 wz.heap.size A9 cap9 O ∧ Below wz.heap.size wz wr2) (fun _ x _ => all.length - (intOf x).toNat)
      case atStart => exact ⟨0, [], none, 0, Nat.zero_le _, rfl, rfl, rfl, Nat.le_refl _, OwnL.nil _ _ _, by rw [hwz]; exact Below.refl _ _⟩
      case round =>
        obtain ⟨j, O, A9, cap9, hj, rfl, rfl, hO, hOl, hown, hb9⟩ := hrel
        have HO := Lib.hid hO
        have HOW := Lib.hid hown
        have HB9 := Lib.hid hb9
        have HIZ : Hid (RInv wz w.heap.size A1 A2 cap1 cap2 all) := Lib.hid (by rw [hwz]; exact HI.out)
        have HBZ : Hid (Below w.heap.size w wz) := Lib.hid (by rw [hwz]; exact HBR.out)
        clear hO hown hb9 hwz
        by_cases hlj : j < all.length
        · have hlo : j < (all.map fun x => !x.2).length := by rw [List.length_map]; exact hlj
          have hls : j < (all.map fun x => x.1).length := by rw [List.length_map]; exact hlj
          obtain ⟨bo, oo, rfl, hblo, hco⟩ := ((HIZ.out.opn.below HB9.out).rd bcs_ok) (by omega)
          obtain ⟨bs, os, rfl, hbls, hcs⟩ := ((HIZ.out.all.below HB9.out).rd scs_ok) (by omega)
          have hco' := hco j hlo
          have hcs' := hcs j hls
          rw [List.getElem_map] at hco' hcs'
          have hsn := Qr.outS_snoc hlj
          obtain ⟨⟨⟨a1, a2, a3, a4, a5⟩, d⟩, hx⟩ : ∃ x, all[j] = x := ⟨_, rfl⟩
          rw [hx] at hco' hcs' hsn
          have HS := Lib.hid hsn
          have co : wr.cell? ⟨bo, oo + j, none⟩ = some (.bool (!d)) := by
            have := hco' 0 (.bool (!d)) rfl
            simpa using this
          have c0 : wr.cell? ⟨bs, os + j * 5, none⟩ = some (.int .i64 a1) := hcs' 0 _ rfl
          have c1 : wr.cell? ⟨bs, os + j * 5 + 1, none⟩ = some (.int .i64 a2) := hcs' 1 _ rfl
          have c2 : wr.cell? ⟨bs, os + j * 5 + 2, none⟩ = some (.int .i64 a3) := hcs' 2 _ rfl
          have c3 : wr.cell? ⟨bs, os + j * 5 + 3, none⟩ = some (.int .i64 a4) := hcs' 3 _ rfl
          have c4 : wr.cell? ⟨bs, os + j * 5 + 4, none⟩ = some (.int .i64 a5) := hcs' 4 _ rfl
          clear hco hcs hco' hcs' hsn hx
          cases d with
          | false =>
            simp only [Bool.not_false] at co
            go_wp2_with fail
            go_roundw
            case rel => exact ⟨j + 1, O, A9, cap9, by omega, by go_num, rfl, by rw [HS.out, if_neg (by simp), List.append_nil]; exact HO.out, by omega, HOW.out, HB9.out⟩
            case measure => simp [intOf]; omega
          | true =>
            simp only [Bool.not_true] at co
            go_wp2_with (at_builtin; refine wpList_append_el scs_ok Try.underlying37 Try.info42 rfl (by decide) rfl (.tmp 92) (.tmp 97) rfl O.length rfl rfl (HOW.out.below (below_box _ _)) _ rfl ⟨a1, a2, a3, a4, a5⟩ (range_new (by simp) rfl) (by omega) (Nat.le_trans HB9.out.size (below_box _ _).size) (O.length + 1) rfl ?_; intro A3 cap3 w3 ho3 hb3 _)
            have HO3 := Lib.hid ho3
            have HB3 := Lib.hid ((HB9.out.trans ((below_box _ _).mono HB9.out.size)).trans hb3)
            clear ho3 hb3
            go_wp2_with fail
            go_roundw
            case rel => exact ⟨j + 1, O ++ [⟨a1, a2, a3, a4, a5⟩], A3, cap3, by omega, by go_num, by first | rfl | simp, by rw [HS.out, if_pos rfl, HO.out], by simp; omega, HO3.out, HB3.out⟩
            case measure => simp [intOf]; omega
        · have hjs : j = all.length := by omega
          have HJ := Lib.hid hjs
          clear hjs
          have e1 : O = L := by rw [HO.out, HJ.out, List.take_length, HA.out, ← HLL.out]; rfl
          subst e1
          go_wp2_with fail
          go_ret
          exact ⟨A9, cap9, rfl, HOW.out.mono HBZ.out.size, HBZ.out.trans (HB9.out.mono HBZ.out.size)⟩
end Go.Proofs.Ytojadmccenkffaa
