/- The walks of rec, SameRecs and SameStays. -/
import Derived.Test.YtojadmccenkffaaWalkF
import Derived.Test.YtojadmccenkffaaHeld
namespace Go.Proofs.Ytojadmccenkffaa
open Go.RowKit

def TruePost (w : World) (e : Ending) (w' : World) : Prop := e = .returned (.bool true) ∧ Below w.heap.size w w'
theorem rec_any (t p k : Int) (w : World) : Calls Try.prog 25 #[.int .i64 t, .int .i64 p, .int .i64 k] w fun e w' => e = .returned (.agg #[.int .i64 t, .int .i64 0, .int .i64 k, .int .i64 p, .int .i64 0, .int .i64 0]) ∧ Below w.heap.size w w' := by
  go_enter Try.func25, Try.ntmps25
  go_wp2
  exact bodyPost_ret (v := .agg #[.int .i64 t, .int .i64 0, .int .i64 k, .int .i64 p, .int .i64 0, .int .i64 0]) (by simp [results, Try.results25, go_sem]) rfl ⟨rfl, below_box _ _⟩
set_option maxRecDepth 100000 in
set_option maxHeartbeats 1000000 in
theorem sameRecs_any (A1 A2 : Option Addr) (n c1 c2 : Nat) (l : List Qr.Rc) (w : World) (h1 : RdL rcs 6 w w.heap.size A1 l) (h2 : RdL rcs 6 w w.heap.size A2 l) (hn : l.length = n) (hl : n ≤ 1000000) :
    Calls Try.prog 12 #[.slice A1 n c1, .slice A2 n c2] w (TruePost w) := by
  subst hn
  have H1 := Lib.hid h1
  have H2 := Lib.hid h2
  have hne : ((l.length : Int) != (l.length : Int)) = false := by simp
  clear h1 h2
  go_enter Try.func12, Try.ntmps12
  go_wp2_with fail
  go_loopw [5] (fun i wr => ∃ k : Nat, k ≤ l.length ∧ i = .int .i64 k ∧ Below w.heap.size w wr) (fun i _ => l.length - (intOf i).toNat)
  case atStart => exact ⟨0, Nat.zero_le _, rfl, Below.refl _ _⟩
  case round =>
    obtain ⟨k, hk, rfl, hbel⟩ := hrel
    by_cases hlt : k < l.length
    · obtain ⟨b1, o1, rfl, _, hc1⟩ := (H1.out.below hbel) (by omega)
      obtain ⟨b2, o2, rfl, _, hc2⟩ := (H2.out.below hbel) (by omega)
      have hx1 := hc1 k hlt
      have hx2 := hc2 k hlt
      obtain ⟨⟨a0, a1, a2, a3, a4, a5⟩, hx⟩ : ∃ x, l[k] = x := ⟨_, rfl⟩
      rw [hx] at hx1 hx2
      have c0 : wr.cell? ⟨b1, o1 + k * 6, none⟩ = some (.int .i64 a0) := hx1 0 _ rfl
      have c1 : wr.cell? ⟨b1, o1 + k * 6 + 1, none⟩ = some (.int .i64 a1) := hx1 1 _ rfl
      have c2 : wr.cell? ⟨b1, o1 + k * 6 + 2, none⟩ = some (.int .i64 a2) := hx1 2 _ rfl
      have c3 : wr.cell? ⟨b1, o1 + k * 6 + 3, none⟩ = some (.int .i64 a3) := hx1 3 _ rfl
      have c4 : wr.cell? ⟨b1, o1 + k * 6 + 4, none⟩ = some (.int .i64 a4) := hx1 4 _ rfl
      have c5 : wr.cell? ⟨b1, o1 + k * 6 + 5, none⟩ = some (.int .i64 a5) := hx1 5 _ rfl
      have d0 : wr.cell? ⟨b2, o2 + k * 6, none⟩ = some (.int .i64 a0) := hx2 0 _ rfl
      have d1 : wr.cell? ⟨b2, o2 + k * 6 + 1, none⟩ = some (.int .i64 a1) := hx2 1 _ rfl
      have d2 : wr.cell? ⟨b2, o2 + k * 6 + 2, none⟩ = some (.int .i64 a2) := hx2 2 _ rfl
      have d3 : wr.cell? ⟨b2, o2 + k * 6 + 3, none⟩ = some (.int .i64 a3) := hx2 3 _ rfl
      have d4 : wr.cell? ⟨b2, o2 + k * 6 + 4, none⟩ = some (.int .i64 a4) := hx2 4 _ rfl
      have d5 : wr.cell? ⟨b2, o2 + k * 6 + 5, none⟩ = some (.int .i64 a5) := hx2 5 _ rfl
      have hki : (k : Int) < (l.length : Int) := by omega
      clear hx1 hx2 hc1 hc2 hx
      go_wp2_with fail
      go_quiet (fail)
      go_wp2_with fail
      go_roundw
      case rel => exact ⟨k + 1, by omega, by go_num, below_drewN' hbel _⟩
      case measure => simp [intOf]; omega
    · go_wp2_with fail
      go_ret
      exact ⟨rfl, hbel⟩
set_option maxRecDepth 100000 in
set_option maxHeartbeats 1000000 in
theorem sameStays_any (A1 A2 : Option Addr) (n c1 c2 : Nat) (l : List Qr.St) (w : World) (h1 : RdL scs 5 w w.heap.size A1 l) (h2 : RdL scs 5 w w.heap.size A2 l) (hn : l.length = n) (hl : n ≤ 1000000) :
    Calls Try.prog 17 #[.slice A1 n c1, .slice A2 n c2] w (TruePost w) := by
  subst hn
  have H1 := Lib.hid h1
  have H2 := Lib.hid h2
  have hne : ((l.length : Int) != (l.length : Int)) = false := by simp
  clear h1 h2
  go_enter Try.func17, Try.ntmps17
  go_wp2_with fail
  go_loopw [5] (fun i wr => ∃ k : Nat, k ≤ l.length ∧ i = .int .i64 k ∧ Below w.heap.size w wr) (fun i _ => l.length - (intOf i).toNat)
  case atStart => exact ⟨0, Nat.zero_le _, rfl, Below.refl _ _⟩
  case round =>
    obtain ⟨k, hk, rfl, hbel⟩ := hrel
    by_cases hlt : k < l.length
    · obtain ⟨b1, o1, rfl, _, hc1⟩ := (H1.out.below hbel) (by omega)
      obtain ⟨b2, o2, rfl, _, hc2⟩ := (H2.out.below hbel) (by omega)
      have hx1 := hc1 k hlt
      have hx2 := hc2 k hlt
      obtain ⟨⟨a0, a1, a2, a3, a4⟩, hx⟩ : ∃ x, l[k] = x := ⟨_, rfl⟩
      rw [hx] at hx1 hx2
      have c0 : wr.cell? ⟨b1, o1 + k * 5, none⟩ = some (.int .i64 a0) := hx1 0 _ rfl
      have c1 : wr.cell? ⟨b1, o1 + k * 5 + 1, none⟩ = some (.int .i64 a1) := hx1 1 _ rfl
      have c2 : wr.cell? ⟨b1, o1 + k * 5 + 2, none⟩ = some (.int .i64 a2) := hx1 2 _ rfl
      have c3 : wr.cell? ⟨b1, o1 + k * 5 + 3, none⟩ = some (.int .i64 a3) := hx1 3 _ rfl
      have c4 : wr.cell? ⟨b1, o1 + k * 5 + 4, none⟩ = some (.int .i64 a4) := hx1 4 _ rfl
      have d0 : wr.cell? ⟨b2, o2 + k * 5, none⟩ = some (.int .i64 a0) := hx2 0 _ rfl
      have d1 : wr.cell? ⟨b2, o2 + k * 5 + 1, none⟩ = some (.int .i64 a1) := hx2 1 _ rfl
      have d2 : wr.cell? ⟨b2, o2 + k * 5 + 2, none⟩ = some (.int .i64 a2) := hx2 2 _ rfl
      have d3 : wr.cell? ⟨b2, o2 + k * 5 + 3, none⟩ = some (.int .i64 a3) := hx2 3 _ rfl
      have d4 : wr.cell? ⟨b2, o2 + k * 5 + 4, none⟩ = some (.int .i64 a4) := hx2 4 _ rfl
      have hki : (k : Int) < (l.length : Int) := by omega
      clear hx1 hx2 hc1 hc2 hx
      go_wp2_with fail
      go_quiet (fail)
      go_wp2_with fail
      go_roundw
      case rel => exact ⟨k + 1, by omega, by go_num, below_drewN' hbel _⟩
      case measure => simp [intOf]; omega
    · go_wp2_with fail
      go_ret
      exact ⟨rfl, hbel⟩
end Go.Proofs.Ytojadmccenkffaa
