/- The walk of Stays. -/
import Derived.Test.YtojadmccenkffaaWalkI
import Derived.Test.YtojadmccenkffaaWalkF
import Derived.Test.YtojadmccenkffaaHeld
namespace Go.Proofs.Ytojadmccenkffaa
open Go.RowKit

def RcOk (r : Qr.Rc) : Prop := I64 r.time ∧ I64 r.site ∧ I64 r.what ∧ I64 r.proc ∧ I64 r.index ∧ I64 r.value
set_option maxRecDepth 100000 in
set_option maxHeartbeats 4000000 in
theorem stays_any (A : Option Addr) (cap : Nat) (l : List Qr.Rc) (bg en : Int) (w : World) (hr : RdL rcs 6 w w.heap.size A l) (hl : l.length ≤ 1000) (hok : ∀ r ∈ l, RcOk r) :
    Calls Try.prog 18 #[.slice A l.length cap, .int .i64 bg, .int .i64 en] w (StsPost w (Qr.stays l bg en)) := by
  have HR := Lib.hid hr
  have HOK := Lib.hid hok
  clear hr hok
  have hmm := @run_makeMap Try.prog
  go_enter Try.func18, Try.ntmps18
  go_wp2_with fail
  have HM0 := Lib.hid (QMap.made w)
  clear hmm
  go_loopw [7, 19] (fun v i wr => ∃ (k : Nat) (all : List (Qr.St × Bool)) (A' : Option Addr) (cap' n : Nat) (D : DataW Value), k ≤ l.length ∧ i = .int .i64 k ∧ v = .slice A' all.length cap' ∧ all = Qr.runS bg en [] (l.take k) ∧ all.length ≤ k ∧ n ≤ 2 * k ∧
      Inv wr w.heap.size w.heap.size D n all all A' cap' ∧ Below w.heap.size w wr) (fun _ i _ => l.length - (intOf i).toNat)
  case atStart => exact ⟨0, [], none, 0, 0, .map [], Nat.zero_le _, rfl, rfl, rfl, Nat.le_refl _, Nat.le_refl _, ⟨HM0.out, OwnL.nil _ _ _, fun κ _ => by rw [look_empty]; exact QRow.nil _ _, fun κ κ' _ _ _ => by rw [look_empty]; exact .inl rfl⟩, below_box w _⟩
  case round =>
    clear HM0
    obtain ⟨k, all, A', cap', n, D, hk, rfl, rfl, hall, hallk, hnk, hinv, hbel⟩ := hrel
    have HA := Lib.hid hall
    have HI := Lib.hid hinv
    have HBE := Lib.hid hbel
    clear hall hinv hbel
    by_cases hlt : k < l.length
    · obtain ⟨b, off, rfl, hbl, hcell⟩ := (HR.out.below HBE.out) (by omega)
      have hc := hcell k hlt
      have hsn := Qr.runS_snoc bg en hlt
      have hrok := HOK.out _ (List.getElem_mem hlt)
      obtain ⟨⟨a0, a1, a2, a3, a4, a5⟩, hx⟩ : ∃ x, l[k] = x := ⟨_, rfl⟩
      rw [hx] at hc hsn hrok
      have HS := Lib.hid hsn
      have hkok : KOk ⟨a1, a3, a4⟩ := ⟨hrok.2.1, hrok.2.2.2.1, hrok.2.2.2.2.1⟩
      have c0 : wr.cell? ⟨b, off + k * 6, none⟩ = some (.int .i64 a0) := hc 0 _ rfl
      have c1 : wr.cell? ⟨b, off + k * 6 + 1, none⟩ = some (.int .i64 a1) := hc 1 _ rfl
      have c2 : wr.cell? ⟨b, off + k * 6 + 2, none⟩ = some (.int .i64 a2) := hc 2 _ rfl
      have c3 : wr.cell? ⟨b, off + k * 6 + 3, none⟩ = some (.int .i64 a3) := hc 3 _ rfl
      have c4 : wr.cell? ⟨b, off + k * 6 + 4, none⟩ = some (.int .i64 a4) := hc 4 _ rfl
      have c5 : wr.cell? ⟨b, off + k * 6 + 5, none⟩ = some (.int .i64 a5) := hc 5 _ rfl
      clear hc hcell hx hsn hrok
      have hbb := (below_box wr (.cells #[.int .i64 a0, .int .i64 a1, .int .i64 a2, .int .i64 a3, .int .i64 a4, .int .i64 a5] 34)).trans ((below_box (wr.alloc (.cells #[.int .i64 a0, .int .i64 a1, .int .i64 a2, .int .i64 a3, .int .i64 a4, .int .i64 a5] 34)) (.cells #[.int .i64 a1, .int .i64 a3, .int .i64 a4] 52)).mono (below_box wr _).size)
      have HI2 := Lib.hid (HI.out.below hbb)
      have HB2 := Lib.hid (HBE.out.trans (hbb.mono HBE.out.size))
      clear hbb
      have hlk : (Instr.lookup 50 (.map (some w.heap.size)) (.agg #[.int .i64 a1, .int .i64 a3, .int .i64 a4]) false).run Try.prog ((wr.alloc (.cells #[.int .i64 a0, .int .i64 a1, .int .i64 a2, .int .i64 a3, .int .i64 a4, .int .i64 a5] 34)).alloc (.cells #[.int .i64 a1, .int .i64 a3, .int .i64 a4] 52)) = .ok (look D ⟨a1, a3, a4⟩) ((wr.alloc (.cells #[.int .i64 a0, .int .i64 a1, .int .i64 a2, .int .i64 a3, .int .i64 a4, .int .i64 a5] 34)).alloc (.cells #[.int .i64 a1, .int .i64 a3, .int .i64 a4] 52)) := HI2.out.map.lookup hkok
      have hqq := HI2.out.q _ hkok
      by_cases hwe : a2 = en
      · have hwe1 : (a2 == en) = true := by simpa using hwe
        cases hqs : Qr.opensF ⟨a1, a3, a4⟩ 0 all with
        | nil =>
          have HQ : Hid (a2 = en → Qr.opensF ⟨a1, a3, a4⟩ 0 all = []) := Lib.hid (fun _ => hqs)
          rw [hqs] at hqq
          obtain ⟨Aq, capq, hqv⟩ := hqq.shape
          rw [hqv] at hlk
          have HQV := Lib.hid hqv
          clear hqv hqq hwe hqs
          by_cases hwb : a2 = bg
          · have hwb1 : (a2 == bg) = true := by simpa using hwb
            have HST := Lib.hid (show Qr.stepS bg en all ⟨a0, a1, a2, a3, a4, a5⟩ = all ++ [(Qr.stay0 ⟨a0, a1, a2, a3, a4, a5⟩, false)] from Qr.stepS_push HQ.out hwb)
            clear hwb
            have hbs := HI.out.map.lt
            have HI3 := Lib.hid (HI2.out.below (below_box ((wr.alloc (.cells #[.int .i64 a0, .int .i64 a1, .int .i64 a2, .int .i64 a3, .int .i64 a4, .int .i64 a5] 34)).alloc (.cells #[.int .i64 a1, .int .i64 a3, .int .i64 a4] 52)) (.cells #[.int .i64 all.length] 3)))
            have HB3 := Lib.hid (HB2.out.trans ((below_box ((wr.alloc (.cells #[.int .i64 a0, .int .i64 a1, .int .i64 a2, .int .i64 a3, .int .i64 a4, .int .i64 a5] 34)).alloc (.cells #[.int .i64 a1, .int .i64 a3, .int .i64 a4] 52)) (.cells #[.int .i64 all.length] 3)).mono HB2.out.size))
            obtain ⟨st, we, hme, hge, hstore⟩ := HI3.out.map.entry (by unfold maxLen; omega) hkok
            have HSTO := Lib.hid hstore
            have HGE := Lib.hid hge
            have hme' : (Instr.mapEntry 50 (.map (some w.heap.size)) (.agg #[.int .i64 a1, .int .i64 a3, .int .i64 a4])).run Try.prog (((wr.alloc (.cells #[.int .i64 a0, .int .i64 a1, .int .i64 a2, .int .i64 a3, .int .i64 a4, .int .i64 a5] 34)).alloc (.cells #[.int .i64 a1, .int .i64 a3, .int .i64 a4] 52)).alloc (.cells #[.int .i64 all.length] 3)) = .ok (.tuple #[look D ⟨a1, a3, a4⟩, .int .i64 st]) we := hme
            clear hme hge hstore
            have HQE := Lib.hid ((HI3.out.q _ hkok).kept HGE.out (.inr (HI3.out.q_ne_map hkok)))
            have HQ0 := Lib.hid (HI.out.q _ hkok).lt
            have HNM := Lib.hid (HI3.out.q_ne_map hkok)
            have hsz3 : (((wr.alloc (.cells #[.int .i64 a0, .int .i64 a1, .int .i64 a2, .int .i64 a3, .int .i64 a4, .int .i64 a5] 34)).alloc (.cells #[.int .i64 a1, .int .i64 a3, .int .i64 a4] 52)).alloc (.cells #[.int .i64 all.length] 3)).heap.size = wr.heap.size + 3 := by simp
            have hwe3 : wr.heap.size + 3 ≤ we.heap.size := by rw [← hsz3]; exact HGE.out.size
            have hce : we.cell? ⟨wr.heap.size + 2, 0, none⟩ = some (.int .i64 all.length) := by
              rw [cell_block (HGE.out.block (wr.heap.size + 2) (by rw [hsz3]; omega) (by simp; omega))]
              exact World.cell?_alloc_at _ 3 _ 0 (by simp)
            have hql := Qr.opensF_len ⟨a1, a3, a4⟩ all 0
            have HV := Lib.hid (fun (j : Nat) (w' : World) (h : w'.cell? ⟨wr.heap.size, j, none⟩ = (((wr.alloc (.cells #[.int .i64 a0, .int .i64 a1, .int .i64 a2, .int .i64 a3, .int .i64 a4, .int .i64 a5] 34)).alloc (.cells #[.int .i64 a1, .int .i64 a3, .int .i64 a4] 52)).alloc (.cells #[.int .i64 all.length] 3)).cell? ⟨wr.heap.size, j, none⟩) => h.trans ((((below_box ((wr.alloc (.cells #[.int .i64 a0, .int .i64 a1, .int .i64 a2, .int .i64 a3, .int .i64 a4, .int .i64 a5] 34)).alloc (.cells #[.int .i64 a1, .int .i64 a3, .int .i64 a4] 52)) (.cells #[.int .i64 all.length] 3)).cell (p := ⟨wr.heap.size, j, none⟩) (by simp; omega)).trans ((below_box (wr.alloc (.cells #[.int .i64 a0, .int .i64 a1, .int .i64 a2, .int .i64 a3, .int .i64 a4, .int .i64 a5] 34)) (.cells #[.int .i64 a1, .int .i64 a3, .int .i64 a4] 52)).cell (p := ⟨wr.heap.size, j, none⟩) (by simp))).trans (World.cell?_alloc_at _ 34 _ j rfl)))
            clear hsz3
            go_wp2_with (first
              | (at_builtin; refine wpList_append_q rfl (.tmp 69) (.tmp 72) rfl w.heap.size _ _ rfl HQE.out (wr.heap.size + 2) rfl all.length hce (by omega) (by omega) ?_; intro v2 w5 hq5 hg5 hloc5; obtain ⟨w6, hes, hm6, hg6⟩ := HSTO.out w5 v2 (hg5.block _ (by omega) (fun e => HNM.out e.symm)); have hes' : (Instr.entryStore 50 (.map (some w.heap.size)) (.int .i64 st) v2).run Try.prog w5 = .ok () w6 := hes; have HI6 := Lib.hid (HI3.out.push hkok HGE.out hq5 hg5 hloc5 hm6 hg6 (Qr.stay0 ⟨a0, a1, a2, a3, a4, a5⟩) rfl); have hvk := fun j => HV.out j w6 (var_kept (by simp; omega) (by omega) (fun e => by have := HQ0.out _ e; omega) HGE.out hg5 hg6 j); have v0 := hvk 0; have v1 := hvk 1; have v3 := hvk 3; have v4 := hvk 4; have HB6 := Lib.hid (below_three HB3.out (by simp; omega) (Nat.le_refl _) (fun k e => (HQ0.out k e).1) HGE.out hg5 hg6); clear hvk hes hq5 hg5 hloc5 hm6 hg6)
              | (at_builtin; refine wpList_append_el ocs_ok Try.underlying49 Try.info55 rfl (by decide) rfl (.tmp 76) (.tmp 87) rfl all.length rfl rfl (HI6.out.all.below (below_box _ _)) _ rfl (Qr.stay0 ⟨a0, a1, a2, a3, a4, a5⟩, false) (range_new rfl rfl) (by omega) (Nat.le_trans HB6.out.size (below_box _ _).size) (all.length + 1) rfl ?_; intro A7 cap7 w7 ho7 hb7 hg7; have HI7 := Lib.hid ((HI6.out.below (below_box _ _)).grow ho7 hg7); have HB7 := Lib.hid ((HB6.out.trans ((below_box _ _).mono HB6.out.size)).trans hb7); clear ho7 hb7 hg7))
            go_roundw
            case rel => exact ⟨k + 1, all ++ [(Qr.stay0 ⟨a0, a1, a2, a3, a4, a5⟩, false)], A7, cap7, n + 1, _, by omega, by go_num, by first | rfl | simp, by rw [HS.out, ← HA.out, HST.out], by simp; omega, by omega, HI7.out, HB7.out⟩
            case measure => simp [intOf]; omega
          · have HST := Lib.hid (show Qr.stepS bg en all ⟨a0, a1, a2, a3, a4, a5⟩ = all from Qr.stepS_none HQ.out hwb)
            have hwb1 : (a2 == bg) = false := by simpa using hwb
            clear hwb
            go_wp2_with fail
            go_roundw
            case rel => exact ⟨k + 1, all, A', cap', n, D, by omega, by go_num, rfl, by rw [HS.out, ← HA.out, HST.out], by omega, by omega, HI2.out, HB2.out⟩
            case measure => simp [intOf]; omega
        | cons z zs =>
          have HSTP := Lib.hid (show Qr.stepS bg en all ⟨a0, a1, a2, a3, a4, a5⟩ = Qr.closeAt z a0 all from Qr.stepS_pop hwe hqs)
          obtain ⟨s0, hz1, hz2⟩ := Qr.opensF_at ⟨a1, a3, a4⟩ all 0 z (by rw [hqs]; simp)
          have hzl : z < all.length := by
            rw [Nat.sub_zero] at hz1
            exact (List.getElem?_eq_some_iff.1 hz1).1
          have hqlen := Qr.opensF_len ⟨a1, a3, a4⟩ all 0
          rw [hqs] at hqlen hqq
          obtain ⟨g, off2, capq, hqv, hlc, hcz, htl⟩ := hqq.cons
          rw [hqv] at hlk
          obtain ⟨m, hm⟩ : ∃ m, zs.length + 1 = m := ⟨_, rfl⟩
          have hm1 : zs.length = m - 1 := by omega
          rw [hm] at hlk hlc
          obtain ⟨v', hv'⟩ : ∃ v', v' = Value.slice (if capq = 1 then some ⟨g, off2, none⟩ else some ⟨g, off2 + 1, none⟩) zs.length (capq - 1) := ⟨_, rfl⟩
          rw [← hv'] at htl
          have hvb : v'.ownBlock = (look D ⟨a1, a3, a4⟩).ownBlock := by rw [hv', tail_block, hqv]; rfl
          have hD2 := HI2.out.below (Below.refl ((wr.alloc (.cells #[.int .i64 a0, .int .i64 a1, .int .i64 a2, .int .i64 a3, .int .i64 a4, .int .i64 a5] 34)).alloc (.cells #[.int .i64 a1, .int .i64 a3, .int .i64 a4] 52)).heap.size ((wr.alloc (.cells #[.int .i64 a0, .int .i64 a1, .int .i64 a2, .int .i64 a3, .int .i64 a4, .int .i64 a5] 34)).alloc (.cells #[.int .i64 a1, .int .i64 a3, .int .i64 a4] 52))).drew
          obtain ⟨w1, hup0, hmp, hgp⟩ := hD2.map.update (by unfold maxLen; omega) hkok v'
          have hup : (Instr.mapUpdate 50 (.map (some w.heap.size)) (.agg #[.int .i64 a1, .int .i64 a3, .int .i64 a4]) v').run Try.prog ((wr.alloc (.cells #[.int .i64 a0, .int .i64 a1, .int .i64 a2, .int .i64 a3, .int .i64 a4, .int .i64 a5] 34)).alloc (.cells #[.int .i64 a1, .int .i64 a3, .int .i64 a4] 52)).drew = .ok () w1 := hup0
          clear hup0
          obtain ⟨ga, hAg, hga1, hga2⟩ := hD2.all.shape (by omega)
          have hpop := hD2.pop hkok hqs htl hvb hmp hgp a0 hAg
          have hall1 : OwnL ocs 55 6 w1 w.heap.size A' cap' all := hD2.all.kept hgp (fun g' hA' e => by
            simp only [Option.some.injEq] at e
            exact hD2.all_ne_map hA' e.symm)
          have hB1 := (HB2.out.drew).grown hgp (HB2.out.size) (fun k e => by cases e; exact Nat.le_refl _)
          rw [hAg] at hall1 hpop
          have hbs := HI.out.map.lt
          have x4 : ∃ v, w1.cell? ⟨ga, z * 6 + 4, none⟩ = some v := by
            rw [World.ownsRow.cellAt hall1 _ (by omega), List.getElem?_eq_getElem (by rw [flat_len ocs_ok]; omega)]
            exact ⟨_, rfl⟩
          have x5 : ∃ v, w1.cell? ⟨ga, z * 6 + 5, none⟩ = some v := by
            rw [World.ownsRow.cellAt hall1 _ (by omega), List.getElem?_eq_getElem (by rw [flat_len ocs_ok]; omega)]
            exact ⟨_, rfl⟩
          obtain ⟨y4, x4⟩ := x4
          obtain ⟨y5, x5⟩ := x5
          have f4 := World.ownsRow.frozenAt hall1 (z * 6 + 4)
          have f5 := World.ownsRow.frozenAt hall1 (z * 6 + 5)
          have hkb : ((wr.alloc (.cells #[.int .i64 a0, .int .i64 a1, .int .i64 a2, .int .i64 a3, .int .i64 a4, .int .i64 a5] 34)).alloc (.cells #[.int .i64 a1, .int .i64 a3, .int .i64 a4] 52)).drew.heap.size = wr.heap.size + 2 := by simp
          have hk0 : ∀ j, w1.cell? ⟨wr.heap.size + 1, j, none⟩ = #[Value.int .i64 a1, .int .i64 a3, .int .i64 a4][j]? := fun j => by
            rw [cell_block (hgp.block (wr.heap.size + 1) (by rw [hkb]; omega) (by simp; omega))]
            exact World.cell?_alloc_at _ 52 _ j (by simp)
          have v0 : w1.cell? ⟨wr.heap.size, 0, none⟩ = some (.int .i64 a0) := by
            rw [cell_block (hgp.block wr.heap.size (by rw [hkb]; omega) (by simp; omega))]
            exact ((below_box (wr.alloc (.cells #[.int .i64 a0, .int .i64 a1, .int .i64 a2, .int .i64 a3, .int .i64 a4, .int .i64 a5] 34)) (.cells #[.int .i64 a1, .int .i64 a3, .int .i64 a4] 52)).cell (p := ⟨wr.heap.size, 0, none⟩) (by simp)).trans (World.cell?_alloc_at _ 34 _ 0 rfl)
          have HKA := Lib.hid (show ((wr.alloc (.cells #[.int .i64 a0, .int .i64 a1, .int .i64 a2, .int .i64 a3, .int .i64 a4, .int .i64 a5] 34)).alloc (.cells #[.int .i64 a1, .int .i64 a3, .int .i64 a4] 52)).drew.cell? ⟨wr.heap.size + 1, 0, none⟩ = some (.int .i64 a1) ∧ ((wr.alloc (.cells #[.int .i64 a0, .int .i64 a1, .int .i64 a2, .int .i64 a3, .int .i64 a4, .int .i64 a5] 34)).alloc (.cells #[.int .i64 a1, .int .i64 a3, .int .i64 a4] 52)).drew.cell? ⟨wr.heap.size + 1, 1, none⟩ = some (.int .i64 a3) ∧ ((wr.alloc (.cells #[.int .i64 a0, .int .i64 a1, .int .i64 a2, .int .i64 a3, .int .i64 a4, .int .i64 a5] 34)).alloc (.cells #[.int .i64 a1, .int .i64 a3, .int .i64 a4] 52)).drew.cell? ⟨wr.heap.size + 1, 2, none⟩ = some (.int .i64 a4) from ⟨World.cell?_alloc_at _ 52 _ 0 (by simp), World.cell?_alloc_at _ 52 _ 1 (by simp), World.cell?_alloc_at _ 52 _ 2 (by simp)⟩)
          have hlkd : (Instr.lookup 50 (.map (some w.heap.size)) (.agg #[.int .i64 a1, .int .i64 a3, .int .i64 a4]) false).run Try.prog ((wr.alloc (.cells #[.int .i64 a0, .int .i64 a1, .int .i64 a2, .int .i64 a3, .int .i64 a4, .int .i64 a5] 34)).alloc (.cells #[.int .i64 a1, .int .i64 a3, .int .i64 a4] 52)).drew = .ok (.slice (some ⟨g, off2, none⟩) m capq) ((wr.alloc (.cells #[.int .i64 a0, .int .i64 a1, .int .i64 a2, .int .i64 a3, .int .i64 a4, .int .i64 a5] 34)).alloc (.cells #[.int .i64 a1, .int .i64 a3, .int .i64 a4] 52)).drew := by have hh := hD2.map.lookup hkok; rw [hqv, hm] at hh; exact hh
          have hkk : w1.cell? ⟨wr.heap.size + 1, 0, none⟩ = some (.int .i64 a1) ∧ w1.cell? ⟨wr.heap.size + 1, 1, none⟩ = some (.int .i64 a3) ∧ w1.cell? ⟨wr.heap.size + 1, 2, none⟩ = some (.int .i64 a4) := ⟨hk0 0, hk0 1, hk0 2⟩
          have HKB := Lib.hid hkk
          have HPOP := Lib.hid hpop
          have HB1 := Lib.hid hB1
          have HSAV := Lib.hid (And.intro hga1 hAg)
          have hzi : (z : Int) < (all.length : Int) := by omega
          have hmi : (0 : Int) < (m : Int) := by omega
          have hmd : decide (0 < m) = true := decide_eq_true (by omega)
          have hmc : (m : Int) ≤ (capq : Int) := by omega
          have hmi1 : (1 : Int) ≤ (m : Int) := by omega
          have hci1 : (1 : Int) ≤ (capq : Int) := by omega
          have hcz2 := hcz
          clear hkk hpop hB1 hk0 hkb hall1 hgp hmp hD2 hqq hqs hwe hqlen hz1 hz2 htl hvb hqv hga2 hga1
          subst hAg
          by_cases hcap : capq = 1
          · have hzs : zs.length = 0 := by omega
            have hv2 : v' = .slice (some ⟨g, off2, none⟩) 0 0 := by rw [hv', if_pos hcap, hzs, hcap]
            rw [hv2] at hup
            subst hcap
            have hm11 : m = 1 := by omega
            subst hm11
            clear hv' hm hm1 hlc hzs hv2
            go_wp2_with fail
            refine wp_region_held_drew (S := fun W => W.cell? ⟨wr.heap.size + 1, 0, none⟩ = some (.int .i64 a1) ∧ W.cell? ⟨wr.heap.size + 1, 1, none⟩ = some (.int .i64 a3) ∧ W.cell? ⟨wr.heap.size + 1, 2, none⟩ = some (.int .i64 a4)) (by kernel_rfl) (HKA.out) (fun hHeld => ?_)
            refine wpAnyH_take (i := 0) (v := ?_) at0 (by kernel_rfl) (by kernel_rfl) (by kernel_rfl) (fun _ _ _ h => h) (Or.inl ⟨by rfl, ?_⟩) (by assumption) ?_
            rotate_left
            · (intro w hSw; (try dsimp only at hSw); go_simp; first | done | with_reducible rfl)
            (try simp only [Act.put, List.setIfInBounds_toArray, List.set_cons_zero, List.set_cons_succ])
            refine wpAnyH_take (i := 1) (v := ?_) (atS <| at0) (by kernel_rfl) (by kernel_rfl) (by kernel_rfl) (fun _ _ _ h => h) (Or.inl ⟨by rfl, ?_⟩) (by assumption) ?_
            rotate_left
            · (intro w hSw; (try dsimp only at hSw); go_simp; first | done | with_reducible rfl)
            (try simp only [Act.put, List.setIfInBounds_toArray, List.set_cons_zero, List.set_cons_succ])
            refine wpAnyH_take (i := 2) (v := ?_) (atS <| atS <| at0) (by kernel_rfl) (by kernel_rfl) (by kernel_rfl) (fun _ _ _ h => h) (Or.inl ⟨by rfl, ?_⟩) (by assumption) ?_
            rotate_left
            · (intro w hSw; (try dsimp only at hSw); go_simp; first | done | with_reducible rfl)
            (try simp only [Act.put, List.setIfInBounds_toArray, List.set_cons_zero, List.set_cons_succ])
            refine wpAnyH_take (i := 3) (v := ?_) (atS <| atS <| atS <| at0) (by kernel_rfl) (by kernel_rfl) (by kernel_rfl) (fun _ _ _ h => h) (Or.inl ⟨by rfl, ?_⟩) (by assumption) ?_
            rotate_left
            · (intro w hSw; (try dsimp only at hSw); go_simp; first | done | with_reducible rfl)
            (try simp only [Act.put, List.setIfInBounds_toArray, List.set_cons_zero, List.set_cons_succ])
            refine wpAnyH_ready (rs := [4]) (by kernel_rfl) (by simp) ?_
            refine AllReadyH.cons (atS <| atS <| atS <| atS <| at0) (fun K hK => ?_) AllReadyH.nil
            go_simp
            refine hK.out _ _ (HKA.out) (fun hHeld1 => ?_)
            clear hK K hHeld
            have hHeld := hHeld1
            clear hHeld1
            (try simp only [Act.put, List.setIfInBounds_toArray, List.set_cons_zero, List.set_cons_succ])
            refine wpAnyH_take (i := 5) (v := ?_) (atS <| atS <| atS <| atS <| atS <| at0) (by kernel_rfl) (by kernel_rfl) (by kernel_rfl) (fun _ _ _ h => h) (Or.inl ⟨by rfl, ?_⟩) (by assumption) ?_
            rotate_left
            · (intro w hSw; (try dsimp only at hSw); go_simp; first | done | with_reducible rfl)
            (try simp only [Act.put, List.setIfInBounds_toArray, List.set_cons_zero, List.set_cons_succ])
            refine wpAnyH_ready (rs := [6]) (by kernel_rfl) (by simp) ?_
            refine AllReadyH.cons (atS <| atS <| atS <| atS <| atS <| atS <| at0) (fun K hK => ?_) AllReadyH.nil
            go_simp
            refine hK.out _ _ (HKB.out) (fun hHeld2 => ?_)
            clear hK K hHeld
            have hHeld := hHeld2
            clear hHeld2
            (try simp only [Act.put, List.setIfInBounds_toArray, List.set_cons_zero, List.set_cons_succ])
            refine wpAnyH_done (by kernel_rfl) ?_ _
            go_wp2_with fail
            go_roundw
            case rel => exact ⟨k + 1, Qr.closeAt z a0 all, _, cap', n + 1, _, by omega, by go_num, by rw [Qr.closeAt_len], by rw [HS.out, ← HA.out, HSTP.out], by rw [Qr.closeAt_len]; omega, by omega, HPOP.out, (HB1.out.setCell (p := ⟨ga, z * 6 + 4, none⟩) HSAV.out.1 _).setCell (p := ⟨ga, z * 6 + 5, none⟩) HSAV.out.1 _⟩
            case measure => simp [intOf]; omega
          · have hv2 : v' = .slice (some ⟨g, off2 + 1, none⟩) (m - 1) (capq - 1) := by rw [hv', if_neg hcap, hm1]
            rw [hv2] at hup
            clear hv' hm hm1 hv2
            go_wp2_with fail
            refine wp_region_held_drew (S := fun W => W.cell? ⟨wr.heap.size + 1, 0, none⟩ = some (.int .i64 a1) ∧ W.cell? ⟨wr.heap.size + 1, 1, none⟩ = some (.int .i64 a3) ∧ W.cell? ⟨wr.heap.size + 1, 2, none⟩ = some (.int .i64 a4)) (by kernel_rfl) (HKA.out) (fun hHeld => ?_)
            refine wpAnyH_take (i := 0) (v := ?_) at0 (by kernel_rfl) (by kernel_rfl) (by kernel_rfl) (fun _ _ _ h => h) (Or.inl ⟨by rfl, ?_⟩) (by assumption) ?_
            rotate_left
            · (intro w hSw; (try dsimp only at hSw); go_simp; first | done | with_reducible rfl)
            (try simp only [Act.put, List.setIfInBounds_toArray, List.set_cons_zero, List.set_cons_succ])
            refine wpAnyH_take (i := 1) (v := ?_) (atS <| at0) (by kernel_rfl) (by kernel_rfl) (by kernel_rfl) (fun _ _ _ h => h) (Or.inl ⟨by rfl, ?_⟩) (by assumption) ?_
            rotate_left
            · (intro w hSw; (try dsimp only at hSw); go_simp; first | done | with_reducible rfl)
            (try simp only [Act.put, List.setIfInBounds_toArray, List.set_cons_zero, List.set_cons_succ])
            refine wpAnyH_take (i := 2) (v := ?_) (atS <| atS <| at0) (by kernel_rfl) (by kernel_rfl) (by kernel_rfl) (fun _ _ _ h => h) (Or.inl ⟨by rfl, ?_⟩) (by assumption) ?_
            rotate_left
            · (intro w hSw; (try dsimp only at hSw); go_simp; first | done | with_reducible rfl)
            (try simp only [Act.put, List.setIfInBounds_toArray, List.set_cons_zero, List.set_cons_succ])
            refine wpAnyH_take (i := 3) (v := ?_) (atS <| atS <| atS <| at0) (by kernel_rfl) (by kernel_rfl) (by kernel_rfl) (fun _ _ _ h => h) (Or.inl ⟨by rfl, ?_⟩) (by assumption) ?_
            rotate_left
            · (intro w hSw; (try dsimp only at hSw); go_simp; first | done | with_reducible rfl)
            (try simp only [Act.put, List.setIfInBounds_toArray, List.set_cons_zero, List.set_cons_succ])
            refine wpAnyH_ready (rs := [4]) (by kernel_rfl) (by simp) ?_
            refine AllReadyH.cons (atS <| atS <| atS <| atS <| at0) (fun K hK => ?_) AllReadyH.nil
            go_simp
            refine hK.out _ _ (HKA.out) (fun hHeld1 => ?_)
            clear hK K hHeld
            have hHeld := hHeld1
            clear hHeld1
            (try simp only [Act.put, List.setIfInBounds_toArray, List.set_cons_zero, List.set_cons_succ])
            refine wpAnyH_take (i := 5) (v := ?_) (atS <| atS <| atS <| atS <| atS <| at0) (by kernel_rfl) (by kernel_rfl) (by kernel_rfl) (fun _ _ _ h => h) (Or.inl ⟨by rfl, ?_⟩) (by assumption) ?_
            rotate_left
            · (intro w hSw; (try dsimp only at hSw); go_simp; first | done | with_reducible rfl)
            (try simp only [Act.put, List.setIfInBounds_toArray, List.set_cons_zero, List.set_cons_succ])
            refine wpAnyH_ready (rs := [6]) (by kernel_rfl) (by simp) ?_
            refine AllReadyH.cons (atS <| atS <| atS <| atS <| atS <| atS <| at0) (fun K hK => ?_) AllReadyH.nil
            go_simp
            refine hK.out _ _ (HKB.out) (fun hHeld2 => ?_)
            clear hK K hHeld
            have hHeld := hHeld2
            clear hHeld2
            (try simp only [Act.put, List.setIfInBounds_toArray, List.set_cons_zero, List.set_cons_succ])
            refine wpAnyH_done (by kernel_rfl) ?_ _
            go_wp2_with fail
            go_roundw
            case rel => exact ⟨k + 1, Qr.closeAt z a0 all, _, cap', n + 1, _, by omega, by go_num, by rw [Qr.closeAt_len], by rw [HS.out, ← HA.out, HSTP.out], by rw [Qr.closeAt_len]; omega, by omega, HPOP.out, (HB1.out.setCell (p := ⟨ga, z * 6 + 4, none⟩) HSAV.out.1 _).setCell (p := ⟨ga, z * 6 + 5, none⟩) HSAV.out.1 _⟩
            case measure => simp [intOf]; omega
      · have hwe1 : (a2 == en) = false := by simpa using hwe
        have HQ : Hid (a2 = en → Qr.opensF ⟨a1, a3, a4⟩ 0 all = []) := Lib.hid (fun h => absurd h hwe)
        clear hwe hqq hlk
        by_cases hwb : a2 = bg
        · have hwb1 : (a2 == bg) = true := by simpa using hwb
          have HST := Lib.hid (show Qr.stepS bg en all ⟨a0, a1, a2, a3, a4, a5⟩ = all ++ [(Qr.stay0 ⟨a0, a1, a2, a3, a4, a5⟩, false)] from Qr.stepS_push HQ.out hwb)
          clear hwb
          have hbs := HI.out.map.lt
          have HI3 := Lib.hid (HI2.out.below (below_box ((wr.alloc (.cells #[.int .i64 a0, .int .i64 a1, .int .i64 a2, .int .i64 a3, .int .i64 a4, .int .i64 a5] 34)).alloc (.cells #[.int .i64 a1, .int .i64 a3, .int .i64 a4] 52)) (.cells #[.int .i64 all.length] 3)))
          have HB3 := Lib.hid (HB2.out.trans ((below_box ((wr.alloc (.cells #[.int .i64 a0, .int .i64 a1, .int .i64 a2, .int .i64 a3, .int .i64 a4, .int .i64 a5] 34)).alloc (.cells #[.int .i64 a1, .int .i64 a3, .int .i64 a4] 52)) (.cells #[.int .i64 all.length] 3)).mono HB2.out.size))
          obtain ⟨st, we, hme, hge, hstore⟩ := HI3.out.map.entry (by unfold maxLen; omega) hkok
          have HSTO := Lib.hid hstore
          have HGE := Lib.hid hge
          have hme' : (Instr.mapEntry 50 (.map (some w.heap.size)) (.agg #[.int .i64 a1, .int .i64 a3, .int .i64 a4])).run Try.prog (((wr.alloc (.cells #[.int .i64 a0, .int .i64 a1, .int .i64 a2, .int .i64 a3, .int .i64 a4, .int .i64 a5] 34)).alloc (.cells #[.int .i64 a1, .int .i64 a3, .int .i64 a4] 52)).alloc (.cells #[.int .i64 all.length] 3)) = .ok (.tuple #[look D ⟨a1, a3, a4⟩, .int .i64 st]) we := hme
          clear hme hge hstore
          have HQE := Lib.hid ((HI3.out.q _ hkok).kept HGE.out (.inr (HI3.out.q_ne_map hkok)))
          have HQ0 := Lib.hid (HI.out.q _ hkok).lt
          have HNM := Lib.hid (HI3.out.q_ne_map hkok)
          have hsz3 : (((wr.alloc (.cells #[.int .i64 a0, .int .i64 a1, .int .i64 a2, .int .i64 a3, .int .i64 a4, .int .i64 a5] 34)).alloc (.cells #[.int .i64 a1, .int .i64 a3, .int .i64 a4] 52)).alloc (.cells #[.int .i64 all.length] 3)).heap.size = wr.heap.size + 3 := by simp
          have hwe3 : wr.heap.size + 3 ≤ we.heap.size := by rw [← hsz3]; exact HGE.out.size
          have hce : we.cell? ⟨wr.heap.size + 2, 0, none⟩ = some (.int .i64 all.length) := by
            rw [cell_block (HGE.out.block (wr.heap.size + 2) (by rw [hsz3]; omega) (by simp; omega))]
            exact World.cell?_alloc_at _ 3 _ 0 (by simp)
          have hql := Qr.opensF_len ⟨a1, a3, a4⟩ all 0
          have HV := Lib.hid (fun (j : Nat) (w' : World) (h : w'.cell? ⟨wr.heap.size, j, none⟩ = (((wr.alloc (.cells #[.int .i64 a0, .int .i64 a1, .int .i64 a2, .int .i64 a3, .int .i64 a4, .int .i64 a5] 34)).alloc (.cells #[.int .i64 a1, .int .i64 a3, .int .i64 a4] 52)).alloc (.cells #[.int .i64 all.length] 3)).cell? ⟨wr.heap.size, j, none⟩) => h.trans ((((below_box ((wr.alloc (.cells #[.int .i64 a0, .int .i64 a1, .int .i64 a2, .int .i64 a3, .int .i64 a4, .int .i64 a5] 34)).alloc (.cells #[.int .i64 a1, .int .i64 a3, .int .i64 a4] 52)) (.cells #[.int .i64 all.length] 3)).cell (p := ⟨wr.heap.size, j, none⟩) (by simp; omega)).trans ((below_box (wr.alloc (.cells #[.int .i64 a0, .int .i64 a1, .int .i64 a2, .int .i64 a3, .int .i64 a4, .int .i64 a5] 34)) (.cells #[.int .i64 a1, .int .i64 a3, .int .i64 a4] 52)).cell (p := ⟨wr.heap.size, j, none⟩) (by simp))).trans (World.cell?_alloc_at _ 34 _ j rfl)))
          clear hsz3
          go_wp2_with (first
            | (at_builtin; refine wpList_append_q rfl (.tmp 69) (.tmp 72) rfl w.heap.size _ _ rfl HQE.out (wr.heap.size + 2) rfl all.length hce (by omega) (by omega) ?_; intro v2 w5 hq5 hg5 hloc5; obtain ⟨w6, hes, hm6, hg6⟩ := HSTO.out w5 v2 (hg5.block _ (by omega) (fun e => HNM.out e.symm)); have hes' : (Instr.entryStore 50 (.map (some w.heap.size)) (.int .i64 st) v2).run Try.prog w5 = .ok () w6 := hes; have HI6 := Lib.hid (HI3.out.push hkok HGE.out hq5 hg5 hloc5 hm6 hg6 (Qr.stay0 ⟨a0, a1, a2, a3, a4, a5⟩) rfl); have hvk := fun j => HV.out j w6 (var_kept (by simp; omega) (by omega) (fun e => by have := HQ0.out _ e; omega) HGE.out hg5 hg6 j); have v0 := hvk 0; have v1 := hvk 1; have v3 := hvk 3; have v4 := hvk 4; have HB6 := Lib.hid (below_three HB3.out (by simp; omega) (Nat.le_refl _) (fun k e => (HQ0.out k e).1) HGE.out hg5 hg6); clear hvk hes hq5 hg5 hloc5 hm6 hg6)
            | (at_builtin; refine wpList_append_el ocs_ok Try.underlying49 Try.info55 rfl (by decide) rfl (.tmp 76) (.tmp 87) rfl all.length rfl rfl (HI6.out.all.below (below_box _ _)) _ rfl (Qr.stay0 ⟨a0, a1, a2, a3, a4, a5⟩, false) (range_new rfl rfl) (by omega) (Nat.le_trans HB6.out.size (below_box _ _).size) (all.length + 1) rfl ?_; intro A7 cap7 w7 ho7 hb7 hg7; have HI7 := Lib.hid ((HI6.out.below (below_box _ _)).grow ho7 hg7); have HB7 := Lib.hid ((HB6.out.trans ((below_box _ _).mono HB6.out.size)).trans hb7); clear ho7 hb7 hg7))
          go_roundw
          case rel => exact ⟨k + 1, all ++ [(Qr.stay0 ⟨a0, a1, a2, a3, a4, a5⟩, false)], A7, cap7, n + 1, _, by omega, by go_num, by first | rfl | simp, by rw [HS.out, ← HA.out, HST.out], by simp; omega, by omega, HI7.out, HB7.out⟩
          case measure => simp [intOf]; omega
        · have HST := Lib.hid (show Qr.stepS bg en all ⟨a0, a1, a2, a3, a4, a5⟩ = all from Qr.stepS_none HQ.out hwb)
          have hwb1 : (a2 == bg) = false := by simpa using hwb
          clear hwb
          go_wp2_with fail
          go_roundw
          case rel => exact ⟨k + 1, all, A', cap', n, D, by omega, by go_num, rfl, by rw [HS.out, ← HA.out, HST.out], by omega, by omega, HI2.out, HB2.out⟩
          case measure => simp [intOf]; omega
    · have hks : k = l.length := by omega
      have HALL := Lib.hid (show all = Qr.runS bg en [] l by rw [HA.out, hks, List.take_length])
      have HRD := Lib.hid (HI.out.all.rd ocs_ok)
      clear hks
      obtain ⟨wo, hwo⟩ : ∃ wo : World, wo = wr := ⟨_, rfl⟩
      subst hwo
      go_wp2_with fail
      go_loopw [13, 92] (fun v i wr => ∃ (j : Nat) (O : List Qr.St) (A9 : Option Addr) (cap9 : Nat), j ≤ all.length ∧ i = .int .i64 j ∧ v = .slice A9 O.length cap9 ∧ O = Qr.outS (all.take j) ∧ O.length ≤ j ∧
          OwnL scs 42 5 wr wo.heap.size A9 cap9 O ∧ Below wo.heap.size wo wr) (fun _ i _ => all.length - (intOf i).toNat)
      case atStart => exact ⟨0, [], none, 0, Nat.zero_le _, rfl, rfl, rfl, Nat.le_refl _, OwnL.nil _ _ _, Below.refl _ _⟩
      case round =>
        obtain ⟨j, O, A9, cap9, hj, rfl, rfl, hO, hOl, hown, hbel⟩ := hrel
        have HO := Lib.hid hO
        have HOW := Lib.hid hown
        have HB9 := Lib.hid hbel
        clear hO hown hbel
        by_cases hjl : j < all.length
        · obtain ⟨b9, off9, rfl, hb9, hcell⟩ := (HRD.out.below HB9.out) (by omega)
          have hc := hcell j hjl
          have hsn := Qr.outS_snoc hjl
          obtain ⟨⟨⟨a1, a2, a3, a4, a5⟩, d⟩, hx⟩ : ∃ x, all[j] = x := ⟨_, rfl⟩
          rw [hx] at hc hsn
          have HS := Lib.hid hsn
          have c0 : wr.cell? ⟨b9, off9 + j * 6, none⟩ = some (.int .i64 a1) := hc 0 _ rfl
          have c1 : wr.cell? ⟨b9, off9 + j * 6 + 1, none⟩ = some (.int .i64 a2) := hc 1 _ rfl
          have c2 : wr.cell? ⟨b9, off9 + j * 6 + 2, none⟩ = some (.int .i64 a3) := hc 2 _ rfl
          have c3 : wr.cell? ⟨b9, off9 + j * 6 + 3, none⟩ = some (.int .i64 a4) := hc 3 _ rfl
          have c4 : wr.cell? ⟨b9, off9 + j * 6 + 4, none⟩ = some (.int .i64 a5) := hc 4 _ rfl
          have c5 : wr.cell? ⟨b9, off9 + j * 6 + 5, none⟩ = some (.bool d) := hc 5 _ rfl
          clear hc hcell hx hsn
          have BX := Lib.hid (below_box wr (.cells #[.int .i64 a1, .int .i64 a2, .int .i64 a3, .int .i64 a4, .int .i64 a5, .bool d] 55))
          cases d with
          | false =>
            go_wp2_with fail
            go_roundw
            case rel => exact ⟨j + 1, O, A9, cap9, by omega, by go_num, rfl, by rw [HS.out, if_neg (by simp), List.append_nil]; exact HO.out, by omega, HOW.out.below BX.out, HB9.out.trans (BX.out.mono HB9.out.size)⟩
            case measure => simp [intOf]; omega
          | true =>
            go_wp2_with (at_builtin; refine wpList_append_el scs_ok Try.underlying37 Try.info42 rfl (by decide) rfl (.tmp 98) (.tmp 101) rfl O.length rfl rfl ((HOW.out.below BX.out).below (below_box _ _)) _ rfl ⟨a1, a2, a3, a4, a5⟩ (range_new (by simp) rfl) (by omega) (Nat.le_trans HB9.out.size (Nat.le_trans BX.out.size (below_box _ _).size)) (O.length + 1) rfl ?_; intro A3 cap3 w3 ho3 hb3 _)
            have HO3 := Lib.hid ho3
            have HB3 := Lib.hid ((HB9.out.trans ((BX.out.trans ((below_box _ _).mono BX.out.size)).mono HB9.out.size)).trans hb3)
            clear ho3 hb3
            go_wp2_with fail
            go_roundw
            case rel => exact ⟨j + 1, O ++ [⟨a1, a2, a3, a4, a5⟩], A3, cap3, by omega, by go_num, by first | rfl | simp, by rw [HS.out, if_pos rfl, HO.out], by simp; omega, HO3.out, HB3.out⟩
            case measure => simp [intOf]; omega
        · have hjs : j = all.length := by omega
          have HJ := Lib.hid hjs
          clear hjs
          go_wp2_with fail
          go_ret
          have e1 : O = Qr.stays l bg en := by rw [HO.out, HJ.out, List.take_length, HALL.out]; rfl
          rw [← e1]
          exact ⟨A9, cap9, rfl, HOW.out.mono HBE.out.size, HBE.out.trans (HB9.out.mono HBE.out.size)⟩
end Go.Proofs.Ytojadmccenkffaa
