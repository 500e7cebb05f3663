/- The walk of closes, of the reference. -/
import Derived.Test.YtojadmccenkffaaWalkW
namespace Go.Proofs.Ytojadmccenkffaa
open Go.RowKit

/-- The first open stay of a key, or -1. -/
def Qr.First (κ : Qr.K3) (L : List (Qr.St × Bool)) (z : Int) : Prop := (Qr.opensF κ 0 L = [] ∧ z = -1) ∨ ∃ i zs, Qr.opensF κ 0 L = i :: zs ∧ z = ((i : Nat) : Int)
theorem Qr.First.some {κ : Qr.K3} {L : List (Qr.St × Bool)} {z : Int} (h : Qr.First κ L z) {i : Nat} {zs : List Nat} (e : Qr.opensF κ 0 L = i :: zs) : z = (i : Int) := by
  rcases h with ⟨h1, _⟩ | ⟨j, ys, h1, h2⟩
  · rw [h1] at e; cases e
  · rw [h1] at e; cases e; exact h2
theorem Qr.First.none {κ : Qr.K3} {L : List (Qr.St × Bool)} {z : Int} (h : Qr.First κ L z) (e : Qr.opensF κ 0 L = []) : z = -1 := by
  rcases h with ⟨_, h2⟩ | ⟨j, ys, h1, h2⟩
  · exact h2
  · rw [h1] at e; cases e
set_option maxRecDepth 100000 in
set_option maxHeartbeats 8000000 in
theorem closes_any (Ao As : Option Addr) (co cs m : Nat) (L : List (Qr.St × Bool)) (r0 r1 r2 r3 r4 r5 z : Int) (w : World) (ho : RdL bcs 1 w w.heap.size Ao (L.map fun x => !x.2)) (hs : RdL scs 5 w w.heap.size As (L.map fun x => x.1)) (hm : L.length = m) (hl : m ≤ 1000) (hF : Qr.First ⟨r1, r3, r4⟩ L z) :
    Calls Try.prog 28 #[.slice Ao m co, .slice As m cs, .agg #[.int .i64 r0, .int .i64 r1, .int .i64 r2, .int .i64 r3, .int .i64 r4, .int .i64 r5]] w (LenPost w z) := by
  subst hm
  have h0w := below_box w (.cells #[.int .i64 r0, .int .i64 r1, .int .i64 r2, .int .i64 r3, .int .i64 r4, .int .i64 r5] 34)
  have HO := Lib.hid (ho.after h0w)
  have HS := Lib.hid (hs.after h0w)
  have HF := Lib.hid hF
  clear ho hs hF
  go_enter Try.func28, Try.ntmps28
  go_wp2_with fail
  go_loopw [7] (fun x wr => ∃ n : Nat, n ≤ L.length ∧ Qr.opensF ⟨r1, r3, r4⟩ 0 L = Qr.opensF ⟨r1, r3, r4⟩ n (L.drop n) ∧ x = .int .i64 n ∧ Below (w.alloc (.cells #[.int .i64 r0, .int .i64 r1, .int .i64 r2, .int .i64 r3, .int .i64 r4, .int .i64 r5] 34)).heap.size (w.alloc (.cells #[.int .i64 r0, .int .i64 r1, .int .i64 r2, .int .i64 r3, .int .i64 r4, .int .i64 r5] 34)) wr) (fun x _ => L.length - (intOf x).toNat)
  case atStart => exact ⟨0, Nat.zero_le _, rfl, rfl, Below.refl _ _⟩
  case round =>
    obtain ⟨n, hn, he, rfl, hbr⟩ := hrel
    have HE := Lib.hid he
    clear he
    by_cases hlt : n < L.length
    · have hlo : n < (L.map fun x => !x.2).length := by rw [List.length_map]; exact hlt
      have hls : n < (L.map fun x => x.1).length := by rw [List.length_map]; exact hlt
      obtain ⟨bo, oo, rfl, hblo, hco⟩ := (HO.out.below hbr) (by omega)
      obtain ⟨bs, os, rfl, hbls, hcs⟩ := (HS.out.below hbr) (by omega)
      have hco' := hco n hlo
      have hcs' := hcs n hls
      rw [List.getElem_map] at hco' hcs'
      have hdr : L.drop n = L[n] :: L.drop (n + 1) := List.drop_eq_getElem_cons hlt
      obtain ⟨⟨⟨x0, x1, x2, x3, x4⟩, d⟩, hx⟩ : ∃ x, L[n] = x := ⟨_, rfl⟩
      rw [hx] at hco' hcs' hdr
      have HDR := Lib.hid hdr
      have co : wr.cell? ⟨bo, oo + n, none⟩ = some (.bool (!d)) := by
        have := hco' 0 (.bool (!d)) rfl
        simpa using this
      have c0 : wr.cell? ⟨bs, os + n * 5, none⟩ = some (.int .i64 x0) := hcs' 0 _ rfl
      have c1 : wr.cell? ⟨bs, os + n * 5 + 1, none⟩ = some (.int .i64 x1) := hcs' 1 _ rfl
      have c2 : wr.cell? ⟨bs, os + n * 5 + 2, none⟩ = some (.int .i64 x2) := hcs' 2 _ rfl
      have q1 : wr.cell? ⟨w.heap.size, 1, none⟩ = some (.int .i64 r1) := (hbr.cell (p := ⟨w.heap.size, 1, none⟩) (by simp)).trans (World.cell?_alloc_at _ 34 _ 1 rfl)
      have q3 : wr.cell? ⟨w.heap.size, 3, none⟩ = some (.int .i64 r3) := (hbr.cell (p := ⟨w.heap.size, 3, none⟩) (by simp)).trans (World.cell?_alloc_at _ 34 _ 3 rfl)
      have q4 : wr.cell? ⟨w.heap.size, 4, none⟩ = some (.int .i64 r4) := (hbr.cell (p := ⟨w.heap.size, 4, none⟩) (by simp)).trans (World.cell?_alloc_at _ 34 _ 4 rfl)
      clear hco hcs hco' hcs' hdr hx
      cases d with
      | true =>
        simp only [Bool.not_true] at co
        go_wp2_with fail
        refine wp_region_held_drew (S := fun W => W.cell? ⟨bo, oo + n, none⟩ = some (.bool false) ∧ W.cell? ⟨bs, os + n * 5, none⟩ = some (.int .i64 x0) ∧ W.cell? ⟨bs, os + n * 5 + 1, none⟩ = some (.int .i64 x1) ∧ W.cell? ⟨bs, os + n * 5 + 2, none⟩ = some (.int .i64 x2) ∧ W.cell? ⟨w.heap.size, 1, none⟩ = some (.int .i64 r1) ∧ W.cell? ⟨w.heap.size, 3, none⟩ = some (.int .i64 r3) ∧ W.cell? ⟨w.heap.size, 4, none⟩ = some (.int .i64 r4)) (by kernel_rfl) (⟨co, c0, c1, c2, q1, q3, q4⟩) (fun hHeld => ?_)
        refine wpAnyH_take (i := 0) (v := ?_) at0 (by kernel_rfl) (by kernel_rfl) (by kernel_rfl) (fun _ _ _ h => h) (Or.inl ⟨by rfl, ?_⟩) (by assumption) ?_
        rotate_left
        · (intro w hSw; (try dsimp only at hSw); go_simp; first | done | with_reducible rfl)
        (try simp only [Act.put, List.setIfInBounds_toArray, List.set_cons_zero, List.set_cons_succ])
        refine wpAnyH_take (i := 1) (v := ?_) (atS <| at0) (by kernel_rfl) (by kernel_rfl) (by kernel_rfl) (fun _ _ _ h => h) (Or.inl ⟨by rfl, ?_⟩) (by assumption) ?_
        rotate_left
        · (intro w hSw; (try dsimp only at hSw); go_simp; first | done | with_reducible rfl)
        (try simp only [Act.put, List.setIfInBounds_toArray, List.set_cons_zero, List.set_cons_succ])
        refine wpAnyH_take (i := 2) (v := ?_) (atS <| atS <| at0) (by kernel_rfl) (by kernel_rfl) (by kernel_rfl) (fun _ _ _ h => h) (Or.inl ⟨by rfl, ?_⟩) (by assumption) ?_
        rotate_left
        · (intro w hSw; (try dsimp only at hSw); go_simp; first | done | with_reducible rfl)
        (try simp only [Act.put, List.setIfInBounds_toArray, List.set_cons_zero, List.set_cons_succ])
        refine wpAnyH_take (i := 3) (v := ?_) (atS <| atS <| atS <| at0) (by kernel_rfl) (by kernel_rfl) (by kernel_rfl) (fun _ _ _ h => h) (Or.inl ⟨by rfl, ?_⟩) (by assumption) ?_
        rotate_left
        · (intro w hSw; (try dsimp only at hSw); go_simp; first | done | with_reducible rfl)
        (try simp only [Act.put, List.setIfInBounds_toArray, List.set_cons_zero, List.set_cons_succ])
        refine wpAnyH_take (i := 4) (v := ?_) (atS <| atS <| atS <| atS <| at0) (by kernel_rfl) (by kernel_rfl) (by kernel_rfl) (fun _ _ _ h => h) (Or.inl ⟨by rfl, ?_⟩) (by assumption) ?_
        rotate_left
        · (intro w hSw; (try dsimp only at hSw); go_simp; first | done | with_reducible rfl)
        (try simp only [Act.put, List.setIfInBounds_toArray, List.set_cons_zero, List.set_cons_succ])
        refine wpAnyH_take (i := 5) (v := undef) (atS <| atS <| atS <| atS <| atS <| at0) (by kernel_rfl) (by kernel_rfl) (by kernel_rfl) (fun _ _ _ h => h) (Or.inr ⟨by rfl, rfl⟩) (by assumption) ?_
        (try simp only [Act.put, List.setIfInBounds_toArray, List.set_cons_zero, List.set_cons_succ])
        refine wpAnyH_take (i := 6) (v := undef) (atS <| atS <| atS <| atS <| atS <| atS <| at0) (by kernel_rfl) (by kernel_rfl) (by kernel_rfl) (fun _ _ _ h => h) (Or.inr ⟨by rfl, rfl⟩) (by assumption) ?_
        (try simp only [Act.put, List.setIfInBounds_toArray, List.set_cons_zero, List.set_cons_succ])
        refine wpAnyH_take (i := 7) (v := undef) (atS <| atS <| atS <| atS <| atS <| atS <| atS <| at0) (by kernel_rfl) (by kernel_rfl) (by kernel_rfl) (fun _ _ _ h => h) (Or.inr ⟨by rfl, rfl⟩) (by assumption) ?_
        (try simp only [Act.put, List.setIfInBounds_toArray, List.set_cons_zero, List.set_cons_succ])
        refine wpAnyH_take (i := 8) (v := undef) (atS <| atS <| atS <| atS <| atS <| atS <| atS <| atS <| at0) (by kernel_rfl) (by kernel_rfl) (by kernel_rfl) (fun _ _ _ h => h) (Or.inr ⟨by rfl, rfl⟩) (by assumption) ?_
        (try simp only [Act.put, List.setIfInBounds_toArray, List.set_cons_zero, List.set_cons_succ])
        refine wpAnyH_take (i := 9) (v := undef) (atS <| atS <| atS <| atS <| atS <| atS <| atS <| atS <| atS <| at0) (by kernel_rfl) (by kernel_rfl) (by kernel_rfl) (fun _ _ _ h => h) (Or.inr ⟨by rfl, rfl⟩) (by assumption) ?_
        (try simp only [Act.put, List.setIfInBounds_toArray, List.set_cons_zero, List.set_cons_succ])
        refine wpAnyH_take (i := 10) (v := undef) (atS <| atS <| atS <| atS <| atS <| atS <| atS <| atS <| atS <| atS <| at0) (by kernel_rfl) (by kernel_rfl) (by kernel_rfl) (fun _ _ _ h => h) (Or.inr ⟨by rfl, rfl⟩) (by assumption) ?_
        (try simp only [Act.put, List.setIfInBounds_toArray, List.set_cons_zero, List.set_cons_succ])
        refine wpAnyH_take (i := 11) (v := undef) (atS <| atS <| atS <| atS <| atS <| atS <| atS <| atS <| atS <| atS <| atS <| at0) (by kernel_rfl) (by kernel_rfl) (by kernel_rfl) (fun _ _ _ h => h) (Or.inr ⟨by rfl, rfl⟩) (by assumption) ?_
        (try simp only [Act.put, List.setIfInBounds_toArray, List.set_cons_zero, List.set_cons_succ])
        refine wpAnyH_take (i := 12) (v := undef) (atS <| atS <| atS <| atS <| atS <| atS <| atS <| atS <| atS <| atS <| atS <| atS <| at0) (by kernel_rfl) (by kernel_rfl) (by kernel_rfl) (fun _ _ _ h => h) (Or.inr ⟨by rfl, rfl⟩) (by assumption) ?_
        (try simp only [Act.put, List.setIfInBounds_toArray, List.set_cons_zero, List.set_cons_succ])
        refine wpAnyH_take (i := 13) (v := ?_) (atS <| atS <| atS <| atS <| atS <| atS <| atS <| atS <| atS <| atS <| atS <| atS <| atS <| at0) (by kernel_rfl) (by kernel_rfl) (by kernel_rfl) (fun _ _ _ h => h) (Or.inl ⟨by rfl, ?_⟩) (by assumption) ?_
        rotate_left
        · (intro w hSw; (try dsimp only at hSw); go_simp; first | done | with_reducible rfl)
        (try simp only [Act.put, List.setIfInBounds_toArray, List.set_cons_zero, List.set_cons_succ])
        refine wpAnyH_take (i := 14) (v := ?_) (atS <| atS <| atS <| atS <| atS <| atS <| atS <| atS <| atS <| atS <| atS <| atS <| atS <| atS <| at0) (by kernel_rfl) (by kernel_rfl) (by kernel_rfl) (fun _ _ _ h => h) (Or.inl ⟨by rfl, ?_⟩) (by assumption) ?_
        rotate_left
        · (intro w hSw; (try dsimp only at hSw); go_simp; first | done | with_reducible rfl)
        (try simp only [Act.put, List.setIfInBounds_toArray, List.set_cons_zero, List.set_cons_succ])
        refine wpAnyH_take (i := 15) (v := undef) (atS <| atS <| atS <| atS <| atS <| atS <| atS <| atS <| atS <| atS <| atS <| atS <| atS <| atS <| atS <| at0) (by kernel_rfl) (by kernel_rfl) (by kernel_rfl) (fun _ _ _ h => h) (Or.inr ⟨by rfl, rfl⟩) (by assumption) ?_
        (try simp only [Act.put, List.setIfInBounds_toArray, List.set_cons_zero, List.set_cons_succ])
        refine wpAnyH_take (i := 16) (v := undef) (atS <| atS <| atS <| atS <| atS <| atS <| atS <| atS <| atS <| atS <| atS <| atS <| atS <| atS <| atS <| atS <| at0) (by kernel_rfl) (by kernel_rfl) (by kernel_rfl) (fun _ _ _ h => h) (Or.inr ⟨by rfl, rfl⟩) (by assumption) ?_
        (try simp only [Act.put, List.setIfInBounds_toArray, List.set_cons_zero, List.set_cons_succ])
        refine wpAnyH_take (i := 17) (v := undef) (atS <| atS <| atS <| atS <| atS <| atS <| atS <| atS <| atS <| atS <| atS <| atS <| atS <| atS <| atS <| atS <| atS <| at0) (by kernel_rfl) (by kernel_rfl) (by kernel_rfl) (fun _ _ _ h => h) (Or.inr ⟨by rfl, rfl⟩) (by assumption) ?_
        (try simp only [Act.put, List.setIfInBounds_toArray, List.set_cons_zero, List.set_cons_succ])
        refine wpAnyH_take (i := 18) (v := undef) (atS <| atS <| atS <| atS <| atS <| atS <| atS <| atS <| atS <| atS <| atS <| atS <| atS <| atS <| atS <| atS <| atS <| atS <| at0) (by kernel_rfl) (by kernel_rfl) (by kernel_rfl) (fun _ _ _ h => h) (Or.inr ⟨by rfl, rfl⟩) (by assumption) ?_
        (try simp only [Act.put, List.setIfInBounds_toArray, List.set_cons_zero, List.set_cons_succ])
        refine wpAnyH_take (i := 19) (v := undef) (atS <| atS <| atS <| atS <| atS <| atS <| atS <| atS <| atS <| atS <| atS <| atS <| atS <| atS <| atS <| atS <| atS <| atS <| atS <| at0) (by kernel_rfl) (by kernel_rfl) (by kernel_rfl) (fun _ _ _ h => h) (Or.inr ⟨by rfl, rfl⟩) (by assumption) ?_
        (try simp only [Act.put, List.setIfInBounds_toArray, List.set_cons_zero, List.set_cons_succ])
        refine wpAnyH_take (i := 20) (v := undef) (atS <| atS <| atS <| atS <| atS <| atS <| atS <| atS <| atS <| atS <| atS <| atS <| atS <| atS <| atS <| atS <| atS <| atS <| atS <| atS <| at0) (by kernel_rfl) (by kernel_rfl) (by kernel_rfl) (fun _ _ _ h => h) (Or.inr ⟨by rfl, rfl⟩) (by assumption) ?_
        (try simp only [Act.put, List.setIfInBounds_toArray, List.set_cons_zero, List.set_cons_succ])
        refine wpAnyH_take (i := 21) (v := undef) (atS <| atS <| atS <| atS <| atS <| atS <| atS <| atS <| atS <| atS <| atS <| atS <| atS <| atS <| atS <| atS <| atS <| atS <| atS <| atS <| atS <| at0) (by kernel_rfl) (by kernel_rfl) (by kernel_rfl) (fun _ _ _ h => h) (Or.inr ⟨by rfl, rfl⟩) (by assumption) ?_
        (try simp only [Act.put, List.setIfInBounds_toArray, List.set_cons_zero, List.set_cons_succ])
        refine wpAnyH_take (i := 22) (v := undef) (atS <| atS <| atS <| atS <| atS <| atS <| atS <| atS <| atS <| atS <| atS <| atS <| atS <| atS <| atS <| atS <| atS <| atS <| atS <| atS <| atS <| atS <| at0) (by kernel_rfl) (by kernel_rfl) (by kernel_rfl) (fun _ _ _ h => h) (Or.inr ⟨by rfl, rfl⟩) (by assumption) ?_
        (try simp only [Act.put, List.setIfInBounds_toArray, List.set_cons_zero, List.set_cons_succ])
        refine wpAnyH_take (i := 23) (v := ?_) (atS <| atS <| atS <| atS <| atS <| atS <| atS <| atS <| atS <| atS <| atS <| atS <| atS <| atS <| atS <| atS <| atS <| atS <| atS <| atS <| atS <| atS <| atS <| at0) (by kernel_rfl) (by kernel_rfl) (by kernel_rfl) (fun _ _ _ h => h) (Or.inl ⟨by rfl, ?_⟩) (by assumption) ?_
        rotate_left
        · (intro w hSw; (try dsimp only at hSw); go_simp; first | done | with_reducible rfl)
        (try simp only [Act.put, List.setIfInBounds_toArray, List.set_cons_zero, List.set_cons_succ])
        refine wpAnyH_take (i := 24) (v := ?_) (atS <| atS <| atS <| atS <| atS <| atS <| atS <| atS <| atS <| atS <| atS <| atS <| atS <| atS <| atS <| atS <| atS <| atS <| atS <| atS <| atS <| atS <| atS <| atS <| at0) (by kernel_rfl) (by kernel_rfl) (by kernel_rfl) (fun _ _ _ h => h) (Or.inl ⟨by rfl, ?_⟩) (by assumption) ?_
        rotate_left
        · (intro w hSw; (try dsimp only at hSw); go_simp; first | done | with_reducible rfl)
        (try simp only [Act.put, List.setIfInBounds_toArray, List.set_cons_zero, List.set_cons_succ])
        refine wpAnyH_take (i := 25) (v := undef) (atS <| atS <| atS <| atS <| atS <| atS <| atS <| atS <| atS <| atS <| atS <| atS <| atS <| atS <| atS <| atS <| atS <| atS <| atS <| atS <| atS <| atS <| atS <| atS <| atS <| at0) (by kernel_rfl) (by kernel_rfl) (by kernel_rfl) (fun _ _ _ h => h) (Or.inr ⟨by rfl, rfl⟩) (by assumption) ?_
        (try simp only [Act.put, List.setIfInBounds_toArray, List.set_cons_zero, List.set_cons_succ])
        refine wpAnyH_take (i := 26) (v := undef) (atS <| atS <| atS <| atS <| atS <| atS <| atS <| atS <| atS <| atS <| atS <| atS <| atS <| atS <| atS <| atS <| atS <| atS <| atS <| atS <| atS <| atS <| atS <| atS <| atS <| atS <| at0) (by kernel_rfl) (by kernel_rfl) (by kernel_rfl) (fun _ _ _ h => h) (Or.inr ⟨by rfl, rfl⟩) (by assumption) ?_
        (try simp only [Act.put, List.setIfInBounds_toArray, List.set_cons_zero, List.set_cons_succ])
        refine wpAnyH_take (i := 27) (v := undef) (atS <| atS <| atS <| atS <| atS <| atS <| atS <| atS <| atS <| atS <| atS <| atS <| atS <| atS <| atS <| atS <| atS <| atS <| atS <| atS <| atS <| atS <| atS <| atS <| atS <| atS <| atS <| at0) (by kernel_rfl) (by kernel_rfl) (by kernel_rfl) (fun _ _ _ h => h) (Or.inr ⟨by rfl, rfl⟩) (by assumption) ?_
        (try simp only [Act.put, List.setIfInBounds_toArray, List.set_cons_zero, List.set_cons_succ])
        refine wpAnyH_take (i := 28) (v := undef) (atS <| atS <| atS <| atS <| atS <| atS <| atS <| atS <| atS <| atS <| atS <| atS <| atS <| atS <| atS <| atS <| atS <| atS <| atS <| atS <| atS <| atS <| atS <| atS <| atS <| atS <| atS <| atS <| at0) (by kernel_rfl) (by kernel_rfl) (by kernel_rfl) (fun _ _ _ h => h) (Or.inr ⟨by rfl, rfl⟩) (by assumption) ?_
        (try simp only [Act.put, List.setIfInBounds_toArray, List.set_cons_zero, List.set_cons_succ])
        refine wpAnyH_take (i := 29) (v := undef) (atS <| atS <| atS <| atS <| atS <| atS <| atS <| atS <| atS <| atS <| atS <| atS <| atS <| atS <| atS <| atS <| atS <| atS <| atS <| atS <| atS <| atS <| atS <| atS <| atS <| atS <| atS <| atS <| atS <| at0) (by kernel_rfl) (by kernel_rfl) (by kernel_rfl) (fun _ _ _ h => h) (Or.inr ⟨by rfl, rfl⟩) (by assumption) ?_
        (try simp only [Act.put, List.setIfInBounds_toArray, List.set_cons_zero, List.set_cons_succ])
        refine wpAnyH_take (i := 30) (v := undef) (atS <| atS <| atS <| atS <| atS <| atS <| atS <| atS <| atS <| atS <| atS <| atS <| atS <| atS <| atS <| atS <| atS <| atS <| atS <| atS <| atS <| atS <| atS <| atS <| atS <| atS <| atS <| atS <| atS <| atS <| at0) (by kernel_rfl) (by kernel_rfl) (by kernel_rfl) (fun _ _ _ h => h) (Or.inr ⟨by rfl, rfl⟩) (by assumption) ?_
        (try simp only [Act.put, List.setIfInBounds_toArray, List.set_cons_zero, List.set_cons_succ])
        refine wpAnyH_take (i := 31) (v := undef) (atS <| atS <| atS <| atS <| atS <| atS <| atS <| atS <| atS <| atS <| atS <| atS <| atS <| atS <| atS <| atS <| atS <| atS <| atS <| atS <| atS <| atS <| atS <| atS <| atS <| atS <| atS <| atS <| atS <| atS <| atS <| at0) (by kernel_rfl) (by kernel_rfl) (by kernel_rfl) (fun _ _ _ h => h) (Or.inr ⟨by rfl, rfl⟩) (by assumption) ?_
        (try simp only [Act.put, List.setIfInBounds_toArray, List.set_cons_zero, List.set_cons_succ])
        refine wpAnyH_take (i := 32) (v := undef) (atS <| atS <| atS <| atS <| atS <| atS <| atS <| atS <| atS <| atS <| atS <| atS <| atS <| atS <| atS <| atS <| atS <| atS <| atS <| atS <| atS <| atS <| atS <| atS <| atS <| atS <| atS <| atS <| atS <| atS <| atS <| atS <| at0) (by kernel_rfl) (by kernel_rfl) (by kernel_rfl) (fun _ _ _ h => h) (Or.inr ⟨by rfl, rfl⟩) (by assumption) ?_
        (try simp only [Act.put, List.setIfInBounds_toArray, List.set_cons_zero, List.set_cons_succ])
        refine wpAnyH_take (i := 33) (v := ?_) (atS <| atS <| atS <| atS <| atS <| atS <| atS <| atS <| atS <| atS <| atS <| atS <| atS <| atS <| atS <| atS <| atS <| atS <| atS <| atS <| atS <| atS <| atS <| atS <| atS <| atS <| atS <| atS <| atS <| atS <| atS <| atS <| atS <| at0) (by kernel_rfl) (by kernel_rfl) (by kernel_rfl) (fun _ _ _ h => h) (Or.inl ⟨by rfl, ?_⟩) (by assumption) ?_
        rotate_left
        · (intro w hSw; (try dsimp only at hSw); go_simp; first | done | with_reducible rfl)
        (try simp only [Act.put, List.setIfInBounds_toArray, List.set_cons_zero, List.set_cons_succ])
        refine wpAnyH_done (by kernel_rfl) ?_ _
        go_wp2_with fail
        go_roundw
        case rel => exact ⟨n + 1, by omega, by rw [HE.out, HDR.out]; simp [Qr.opensF, Qr.sameK, Qr.St.key], by go_num, hbr.drew⟩
        case measure => simp [intOf]; omega
      | false =>
        simp only [Bool.not_false] at co
        by_cases h0 : x0 = r1
        · by_cases h1 : x1 = r3
          · by_cases h2 : x2 = r4
            · have hz : z = (n : Int) := by
                refine HF.out.some (i := n) (zs := Qr.opensF ⟨r1, r3, r4⟩ (n + 1) (L.drop (n + 1))) ?_
                rw [HE.out, HDR.out]
                simp [Qr.opensF, Qr.sameK, Qr.St.key, h0, h1, h2]
              subst hz
              go_wp2_with fail
              refine wp_region_held_drew (S := fun W => W.cell? ⟨bo, oo + n, none⟩ = some (.bool true) ∧ W.cell? ⟨bs, os + n * 5, none⟩ = some (.int .i64 x0) ∧ W.cell? ⟨bs, os + n * 5 + 1, none⟩ = some (.int .i64 x1) ∧ W.cell? ⟨bs, os + n * 5 + 2, none⟩ = some (.int .i64 x2) ∧ W.cell? ⟨w.heap.size, 1, none⟩ = some (.int .i64 r1) ∧ W.cell? ⟨w.heap.size, 3, none⟩ = some (.int .i64 r3) ∧ W.cell? ⟨w.heap.size, 4, none⟩ = some (.int .i64 r4)) (by kernel_rfl) (⟨co, c0, c1, c2, q1, q3, q4⟩) (fun hHeld => ?_)
              refine wpAnyH_take (i := 0) (v := ?_) at0 (by kernel_rfl) (by kernel_rfl) (by kernel_rfl) (fun _ _ _ h => h) (Or.inl ⟨by rfl, ?_⟩) (by assumption) ?_
              rotate_left
              · (intro w hSw; (try dsimp only at hSw); go_simp; first | done | with_reducible rfl)
              (try simp only [Act.put, List.setIfInBounds_toArray, List.set_cons_zero, List.set_cons_succ])
              refine wpAnyH_take (i := 1) (v := ?_) (atS <| at0) (by kernel_rfl) (by kernel_rfl) (by kernel_rfl) (fun _ _ _ h => h) (Or.inl ⟨by rfl, ?_⟩) (by assumption) ?_
              rotate_left
              · (intro w hSw; (try dsimp only at hSw); go_simp; first | done | with_reducible rfl)
              (try simp only [Act.put, List.setIfInBounds_toArray, List.set_cons_zero, List.set_cons_succ])
              refine wpAnyH_take (i := 2) (v := ?_) (atS <| atS <| at0) (by kernel_rfl) (by kernel_rfl) (by kernel_rfl) (fun _ _ _ h => h) (Or.inl ⟨by rfl, ?_⟩) (by assumption) ?_
              rotate_left
              · (intro w hSw; (try dsimp only at hSw); go_simp; first | done | with_reducible rfl)
              (try simp only [Act.put, List.setIfInBounds_toArray, List.set_cons_zero, List.set_cons_succ])
              refine wpAnyH_take (i := 3) (v := ?_) (atS <| atS <| atS <| at0) (by kernel_rfl) (by kernel_rfl) (by kernel_rfl) (fun _ _ _ h => h) (Or.inl ⟨by rfl, ?_⟩) (by assumption) ?_
              rotate_left
              · (intro w hSw; (try dsimp only at hSw); go_simp; first | done | with_reducible rfl)
              (try simp only [Act.put, List.setIfInBounds_toArray, List.set_cons_zero, List.set_cons_succ])
              refine wpAnyH_take (i := 4) (v := ?_) (atS <| atS <| atS <| atS <| at0) (by kernel_rfl) (by kernel_rfl) (by kernel_rfl) (fun _ _ _ h => h) (Or.inl ⟨by rfl, ?_⟩) (by assumption) ?_
              rotate_left
              · (intro w hSw; (try dsimp only at hSw); go_simp; first | done | with_reducible rfl)
              (try simp only [Act.put, List.setIfInBounds_toArray, List.set_cons_zero, List.set_cons_succ])
              refine wpAnyH_take (i := 5) (v := ?_) (atS <| atS <| atS <| atS <| atS <| at0) (by kernel_rfl) (by kernel_rfl) (by kernel_rfl) (fun _ _ _ h => h) (Or.inl ⟨by rfl, ?_⟩) (by assumption) ?_
              rotate_left
              · (intro w hSw; (try dsimp only at hSw); go_simp; first | done | with_reducible rfl)
              (try simp only [Act.put, List.setIfInBounds_toArray, List.set_cons_zero, List.set_cons_succ])
              refine wpAnyH_take (i := 6) (v := ?_) (atS <| atS <| atS <| atS <| atS <| atS <| at0) (by kernel_rfl) (by kernel_rfl) (by kernel_rfl) (fun _ _ _ h => h) (Or.inl ⟨by rfl, ?_⟩) (by assumption) ?_
              rotate_left
              · (intro w hSw; (try dsimp only at hSw); go_simp; first | done | with_reducible rfl)
              (try simp only [Act.put, List.setIfInBounds_toArray, List.set_cons_zero, List.set_cons_succ])
              refine wpAnyH_take (i := 7) (v := ?_) (atS <| atS <| atS <| atS <| atS <| atS <| atS <| at0) (by kernel_rfl) (by kernel_rfl) (by kernel_rfl) (fun _ _ _ h => h) (Or.inl ⟨by rfl, ?_⟩) (by assumption) ?_
              rotate_left
              · (intro w hSw; (try dsimp only at hSw); go_simp; first | done | with_reducible rfl)
              (try simp only [Act.put, List.setIfInBounds_toArray, List.set_cons_zero, List.set_cons_succ])
              refine wpAnyH_take (i := 8) (v := ?_) (atS <| atS <| atS <| atS <| atS <| atS <| atS <| atS <| at0) (by kernel_rfl) (by kernel_rfl) (by kernel_rfl) (fun _ _ _ h => h) (Or.inl ⟨by rfl, ?_⟩) (by assumption) ?_
              rotate_left
              · (intro w hSw; (try dsimp only at hSw); go_simp; first | done | with_reducible rfl)
              (try simp only [Act.put, List.setIfInBounds_toArray, List.set_cons_zero, List.set_cons_succ])
              refine wpAnyH_take (i := 9) (v := ?_) (atS <| atS <| atS <| atS <| atS <| atS <| atS <| atS <| atS <| at0) (by kernel_rfl) (by kernel_rfl) (by kernel_rfl) (fun _ _ _ h => h) (Or.inl ⟨by rfl, ?_⟩) (by assumption) ?_
              rotate_left
              · (intro w hSw; (try dsimp only at hSw); go_simp; first | done | with_reducible rfl)
              (try simp only [Act.put, List.setIfInBounds_toArray, List.set_cons_zero, List.set_cons_succ])
              refine wpAnyH_take (i := 10) (v := ?_) (atS <| atS <| atS <| atS <| atS <| atS <| atS <| atS <| atS <| atS <| at0) (by kernel_rfl) (by kernel_rfl) (by kernel_rfl) (fun _ _ _ h => h) (Or.inl ⟨by rfl, ?_⟩) (by assumption) ?_
              rotate_left
              · (intro w hSw; (try dsimp only at hSw); go_simp; first | done | with_reducible rfl)
              (try simp only [Act.put, List.setIfInBounds_toArray, List.set_cons_zero, List.set_cons_succ])
              refine wpAnyH_take (i := 11) (v := ?_) (atS <| atS <| atS <| atS <| atS <| atS <| atS <| atS <| atS <| atS <| atS <| at0) (by kernel_rfl) (by kernel_rfl) (by kernel_rfl) (fun _ _ _ h => h) (Or.inl ⟨by rfl, ?_⟩) (by assumption) ?_
              rotate_left
              · (intro w hSw; (try dsimp only at hSw); go_simp; first | done | with_reducible rfl)
              (try simp only [Act.put, List.setIfInBounds_toArray, List.set_cons_zero, List.set_cons_succ])
              refine wpAnyH_take (i := 12) (v := .bool true) (atS <| atS <| atS <| atS <| atS <| atS <| atS <| atS <| atS <| atS <| atS <| atS <| at0) (by kernel_rfl) (by kernel_rfl) (by kernel_rfl) (fun _ _ _ h => h) (Or.inl ⟨by rfl, ?_⟩) (by assumption) ?_
              · (intro w hSw; (try dsimp only at hSw); go_simp; first | done | with_reducible rfl | omega | (simp; done) | (simp; omega) | (simp [*]; done))
              (try simp only [Act.put, List.setIfInBounds_toArray, List.set_cons_zero, List.set_cons_succ])
              refine wpAnyH_take (i := 13) (v := ?_) (atS <| atS <| atS <| atS <| atS <| atS <| atS <| atS <| atS <| atS <| atS <| atS <| atS <| at0) (by kernel_rfl) (by kernel_rfl) (by kernel_rfl) (fun _ _ _ h => h) (Or.inl ⟨by rfl, ?_⟩) (by assumption) ?_
              rotate_left
              · (intro w hSw; (try dsimp only at hSw); go_simp; first | done | with_reducible rfl)
              (try simp only [Act.put, List.setIfInBounds_toArray, List.set_cons_zero, List.set_cons_succ])
              refine wpAnyH_take (i := 14) (v := ?_) (atS <| atS <| atS <| atS <| atS <| atS <| atS <| atS <| atS <| atS <| atS <| atS <| atS <| atS <| at0) (by kernel_rfl) (by kernel_rfl) (by kernel_rfl) (fun _ _ _ h => h) (Or.inl ⟨by rfl, ?_⟩) (by assumption) ?_
              rotate_left
              · (intro w hSw; (try dsimp only at hSw); go_simp; first | done | with_reducible rfl)
              (try simp only [Act.put, List.setIfInBounds_toArray, List.set_cons_zero, List.set_cons_succ])
              refine wpAnyH_take (i := 15) (v := ?_) (atS <| atS <| atS <| atS <| atS <| atS <| atS <| atS <| atS <| atS <| atS <| atS <| atS <| atS <| atS <| at0) (by kernel_rfl) (by kernel_rfl) (by kernel_rfl) (fun _ _ _ h => h) (Or.inl ⟨by rfl, ?_⟩) (by assumption) ?_
              rotate_left
              · (intro w hSw; (try dsimp only at hSw); go_simp; first | done | with_reducible rfl)
              (try simp only [Act.put, List.setIfInBounds_toArray, List.set_cons_zero, List.set_cons_succ])
              refine wpAnyH_take (i := 16) (v := ?_) (atS <| atS <| atS <| atS <| atS <| atS <| atS <| atS <| atS <| atS <| atS <| atS <| atS <| atS <| atS <| atS <| at0) (by kernel_rfl) (by kernel_rfl) (by kernel_rfl) (fun _ _ _ h => h) (Or.inl ⟨by rfl, ?_⟩) (by assumption) ?_
              rotate_left
              · (intro w hSw; (try dsimp only at hSw); go_simp; first | done | with_reducible rfl)
              (try simp only [Act.put, List.setIfInBounds_toArray, List.set_cons_zero, List.set_cons_succ])
              refine wpAnyH_take (i := 17) (v := ?_) (atS <| atS <| atS <| atS <| atS <| atS <| atS <| atS <| atS <| atS <| atS <| atS <| atS <| atS <| atS <| atS <| atS <| at0) (by kernel_rfl) (by kernel_rfl) (by kernel_rfl) (fun _ _ _ h => h) (Or.inl ⟨by rfl, ?_⟩) (by assumption) ?_
              rotate_left
              · (intro w hSw; (try dsimp only at hSw); go_simp; first | done | with_reducible rfl)
              (try simp only [Act.put, List.setIfInBounds_toArray, List.set_cons_zero, List.set_cons_succ])
              refine wpAnyH_take (i := 18) (v := ?_) (atS <| atS <| atS <| atS <| atS <| atS <| atS <| atS <| atS <| atS <| atS <| atS <| atS <| atS <| atS <| atS <| atS <| atS <| at0) (by kernel_rfl) (by kernel_rfl) (by kernel_rfl) (fun _ _ _ h => h) (Or.inl ⟨by rfl, ?_⟩) (by assumption) ?_
              rotate_left
              · (intro w hSw; (try dsimp only at hSw); go_simp; first | done | with_reducible rfl)
              (try simp only [Act.put, List.setIfInBounds_toArray, List.set_cons_zero, List.set_cons_succ])
              refine wpAnyH_take (i := 19) (v := ?_) (atS <| atS <| atS <| atS <| atS <| atS <| atS <| atS <| atS <| atS <| atS <| atS <| atS <| atS <| atS <| atS <| atS <| atS <| atS <| at0) (by kernel_rfl) (by kernel_rfl) (by kernel_rfl) (fun _ _ _ h => h) (Or.inl ⟨by rfl, ?_⟩) (by assumption) ?_
              rotate_left
              · (intro w hSw; (try dsimp only at hSw); go_simp; first | done | with_reducible rfl)
              (try simp only [Act.put, List.setIfInBounds_toArray, List.set_cons_zero, List.set_cons_succ])
              refine wpAnyH_take (i := 20) (v := ?_) (atS <| atS <| atS <| atS <| atS <| atS <| atS <| atS <| atS <| atS <| atS <| atS <| atS <| atS <| atS <| atS <| atS <| atS <| atS <| atS <| at0) (by kernel_rfl) (by kernel_rfl) (by kernel_rfl) (fun _ _ _ h => h) (Or.inl ⟨by rfl, ?_⟩) (by assumption) ?_
              rotate_left
              · (intro w hSw; (try dsimp only at hSw); go_simp; first | done | with_reducible rfl)
              (try simp only [Act.put, List.setIfInBounds_toArray, List.set_cons_zero, List.set_cons_succ])
              refine wpAnyH_take (i := 21) (v := ?_) (atS <| atS <| atS <| atS <| atS <| atS <| atS <| atS <| atS <| atS <| atS <| atS <| atS <| atS <| atS <| atS <| atS <| atS <| atS <| atS <| atS <| at0) (by kernel_rfl) (by kernel_rfl) (by kernel_rfl) (fun _ _ _ h => h) (Or.inl ⟨by rfl, ?_⟩) (by assumption) ?_
              rotate_left
              · (intro w hSw; (try dsimp only at hSw); go_simp; first | done | with_reducible rfl)
              (try simp only [Act.put, List.setIfInBounds_toArray, List.set_cons_zero, List.set_cons_succ])
              refine wpAnyH_take (i := 22) (v := .bool true) (atS <| atS <| atS <| atS <| atS <| atS <| atS <| atS <| atS <| atS <| atS <| atS <| atS <| atS <| atS <| atS <| atS <| atS <| atS <| atS <| atS <| atS <| at0) (by kernel_rfl) (by kernel_rfl) (by kernel_rfl) (fun _ _ _ h => h) (Or.inl ⟨by rfl, ?_⟩) (by assumption) ?_
              · (intro w hSw; (try dsimp only at hSw); go_simp; first | done | with_reducible rfl | omega | (simp; done) | (simp; omega) | (simp [*]; done))
              (try simp only [Act.put, List.setIfInBounds_toArray, List.set_cons_zero, List.set_cons_succ])
              refine wpAnyH_take (i := 23) (v := ?_) (atS <| atS <| atS <| atS <| atS <| atS <| atS <| atS <| atS <| atS <| atS <| atS <| atS <| atS <| atS <| atS <| atS <| atS <| atS <| atS <| atS <| atS <| atS <| at0) (by kernel_rfl) (by kernel_rfl) (by kernel_rfl) (fun _ _ _ h => h) (Or.inl ⟨by rfl, ?_⟩) (by assumption) ?_
              rotate_left
              · (intro w hSw; (try dsimp only at hSw); go_simp; first | done | with_reducible rfl)
              (try simp only [Act.put, List.setIfInBounds_toArray, List.set_cons_zero, List.set_cons_succ])
              refine wpAnyH_take (i := 24) (v := ?_) (atS <| atS <| atS <| atS <| atS <| atS <| atS <| atS <| atS <| atS <| atS <| atS <| atS <| atS <| atS <| atS <| atS <| atS <| atS <| atS <| atS <| atS <| atS <| atS <| at0) (by kernel_rfl) (by kernel_rfl) (by kernel_rfl) (fun _ _ _ h => h) (Or.inl ⟨by rfl, ?_⟩) (by assumption) ?_
              rotate_left
              · (intro w hSw; (try dsimp only at hSw); go_simp; first | done | with_reducible rfl)
              (try simp only [Act.put, List.setIfInBounds_toArray, List.set_cons_zero, List.set_cons_succ])
              refine wpAnyH_take (i := 25) (v := ?_) (atS <| atS <| atS <| atS <| atS <| atS <| atS <| atS <| atS <| atS <| atS <| atS <| atS <| atS <| atS <| atS <| atS <| atS <| atS <| atS <| atS <| atS <| atS <| atS <| atS <| at0) (by kernel_rfl) (by kernel_rfl) (by kernel_rfl) (fun _ _ _ h => h) (Or.inl ⟨by rfl, ?_⟩) (by assumption) ?_
              rotate_left
              · (intro w hSw; (try dsimp only at hSw); go_simp; first | done | with_reducible rfl)
              (try simp only [Act.put, List.setIfInBounds_toArray, List.set_cons_zero, List.set_cons_succ])
              refine wpAnyH_take (i := 26) (v := ?_) (atS <| atS <| atS <| atS <| atS <| atS <| atS <| atS <| atS <| atS <| atS <| atS <| atS <| atS <| atS <| atS <| atS <| atS <| atS <| atS <| atS <| atS <| atS <| atS <| atS <| atS <| at0) (by kernel_rfl) (by kernel_rfl) (by kernel_rfl) (fun _ _ _ h => h) (Or.inl ⟨by rfl, ?_⟩) (by assumption) ?_
              rotate_left
              · (intro w hSw; (try dsimp only at hSw); go_simp; first | done | with_reducible rfl)
              (try simp only [Act.put, List.setIfInBounds_toArray, List.set_cons_zero, List.set_cons_succ])
              refine wpAnyH_take (i := 27) (v := ?_) (atS <| atS <| atS <| atS <| atS <| atS <| atS <| atS <| atS <| atS <| atS <| atS <| atS <| atS <| atS <| atS <| atS <| atS <| atS <| atS <| atS <| atS <| atS <| atS <| atS <| atS <| atS <| at0) (by kernel_rfl) (by kernel_rfl) (by kernel_rfl) (fun _ _ _ h => h) (Or.inl ⟨by rfl, ?_⟩) (by assumption) ?_
              rotate_left
              · (intro w hSw; (try dsimp only at hSw); go_simp; first | done | with_reducible rfl)
              (try simp only [Act.put, List.setIfInBounds_toArray, List.set_cons_zero, List.set_cons_succ])
              refine wpAnyH_take (i := 28) (v := ?_) (atS <| atS <| atS <| atS <| atS <| atS <| atS <| atS <| atS <| atS <| atS <| atS <| atS <| atS <| atS <| atS <| atS <| atS <| atS <| atS <| atS <| atS <| atS <| atS <| atS <| atS <| atS <| atS <| at0) (by kernel_rfl) (by kernel_rfl) (by kernel_rfl) (fun _ _ _ h => h) (Or.inl ⟨by rfl, ?_⟩) (by assumption) ?_
              rotate_left
              · (intro w hSw; (try dsimp only at hSw); go_simp; first | done | with_reducible rfl)
              (try simp only [Act.put, List.setIfInBounds_toArray, List.set_cons_zero, List.set_cons_succ])
              refine wpAnyH_take (i := 29) (v := ?_) (atS <| atS <| atS <| atS <| atS <| atS <| atS <| atS <| atS <| atS <| atS <| atS <| atS <| atS <| atS <| atS <| atS <| atS <| atS <| atS <| atS <| atS <| atS <| atS <| atS <| atS <| atS <| atS <| atS <| at0) (by kernel_rfl) (by kernel_rfl) (by kernel_rfl) (fun _ _ _ h => h) (Or.inl ⟨by rfl, ?_⟩) (by assumption) ?_
              rotate_left
              · (intro w hSw; (try dsimp only at hSw); go_simp; first | done | with_reducible rfl)
              (try simp only [Act.put, List.setIfInBounds_toArray, List.set_cons_zero, List.set_cons_succ])
              refine wpAnyH_take (i := 30) (v := ?_) (atS <| atS <| atS <| atS <| atS <| atS <| atS <| atS <| atS <| atS <| atS <| atS <| atS <| atS <| atS <| atS <| atS <| atS <| atS <| atS <| atS <| atS <| atS <| atS <| atS <| atS <| atS <| atS <| atS <| atS <| at0) (by kernel_rfl) (by kernel_rfl) (by kernel_rfl) (fun _ _ _ h => h) (Or.inl ⟨by rfl, ?_⟩) (by assumption) ?_
              rotate_left
              · (intro w hSw; (try dsimp only at hSw); go_simp; first | done | with_reducible rfl)
              (try simp only [Act.put, List.setIfInBounds_toArray, List.set_cons_zero, List.set_cons_succ])
              refine wpAnyH_take (i := 31) (v := ?_) (atS <| atS <| atS <| atS <| atS <| atS <| atS <| atS <| atS <| atS <| atS <| atS <| atS <| atS <| atS <| atS <| atS <| atS <| atS <| atS <| atS <| atS <| atS <| atS <| atS <| atS <| atS <| atS <| atS <| atS <| atS <| at0) (by kernel_rfl) (by kernel_rfl) (by kernel_rfl) (fun _ _ _ h => h) (Or.inl ⟨by rfl, ?_⟩) (by assumption) ?_
              rotate_left
              · (intro w hSw; (try dsimp only at hSw); go_simp; first | done | with_reducible rfl)
              (try simp only [Act.put, List.setIfInBounds_toArray, List.set_cons_zero, List.set_cons_succ])
              refine wpAnyH_take (i := 32) (v := .bool true) (atS <| atS <| atS <| atS <| atS <| atS <| atS <| atS <| atS <| atS <| atS <| atS <| atS <| atS <| atS <| atS <| atS <| atS <| atS <| atS <| atS <| atS <| atS <| atS <| atS <| atS <| atS <| atS <| atS <| atS <| atS <| atS <| at0) (by kernel_rfl) (by kernel_rfl) (by kernel_rfl) (fun _ _ _ h => h) (Or.inl ⟨by rfl, ?_⟩) (by assumption) ?_
              · (intro w hSw; (try dsimp only at hSw); go_simp; first | done | with_reducible rfl | omega | (simp; done) | (simp; omega) | (simp [*]; done))
              (try simp only [Act.put, List.setIfInBounds_toArray, List.set_cons_zero, List.set_cons_succ])
              refine wpAnyH_take (i := 33) (v := ?_) (atS <| atS <| atS <| atS <| atS <| atS <| atS <| atS <| atS <| atS <| atS <| atS <| atS <| atS <| atS <| atS <| atS <| atS <| atS <| atS <| atS <| atS <| atS <| atS <| atS <| atS <| atS <| atS <| atS <| atS <| atS <| atS <| atS <| at0) (by kernel_rfl) (by kernel_rfl) (by kernel_rfl) (fun _ _ _ h => h) (Or.inl ⟨by rfl, ?_⟩) (by assumption) ?_
              rotate_left
              · (intro w hSw; (try dsimp only at hSw); go_simp; first | done | with_reducible rfl)
              (try simp only [Act.put, List.setIfInBounds_toArray, List.set_cons_zero, List.set_cons_succ])
              refine wpAnyH_done (by kernel_rfl) ?_ _
              go_wp2_with fail
              go_ret
              exact ⟨rfl, h0w.trans (hbr.drew.mono h0w.size)⟩
            · go_wp2_with fail
              refine wp_region_held_drew (S := fun W => W.cell? ⟨bo, oo + n, none⟩ = some (.bool true) ∧ W.cell? ⟨bs, os + n * 5, none⟩ = some (.int .i64 x0) ∧ W.cell? ⟨bs, os + n * 5 + 1, none⟩ = some (.int .i64 x1) ∧ W.cell? ⟨bs, os + n * 5 + 2, none⟩ = some (.int .i64 x2) ∧ W.cell? ⟨w.heap.size, 1, none⟩ = some (.int .i64 r1) ∧ W.cell? ⟨w.heap.size, 3, none⟩ = some (.int .i64 r3) ∧ W.cell? ⟨w.heap.size, 4, none⟩ = some (.int .i64 r4)) (by kernel_rfl) (⟨co, c0, c1, c2, q1, q3, q4⟩) (fun hHeld => ?_)
              refine wpAnyH_take (i := 0) (v := ?_) at0 (by kernel_rfl) (by kernel_rfl) (by kernel_rfl) (fun _ _ _ h => h) (Or.inl ⟨by rfl, ?_⟩) (by assumption) ?_
              rotate_left
              · (intro w hSw; (try dsimp only at hSw); go_simp; first | done | with_reducible rfl)
              (try simp only [Act.put, List.setIfInBounds_toArray, List.set_cons_zero, List.set_cons_succ])
              refine wpAnyH_take (i := 1) (v := ?_) (atS <| at0) (by kernel_rfl) (by kernel_rfl) (by kernel_rfl) (fun _ _ _ h => h) (Or.inl ⟨by rfl, ?_⟩) (by assumption) ?_
              rotate_left
              · (intro w hSw; (try dsimp only at hSw); go_simp; first | done | with_reducible rfl)
              (try simp only [Act.put, List.setIfInBounds_toArray, List.set_cons_zero, List.set_cons_succ])
              refine wpAnyH_take (i := 2) (v := ?_) (atS <| atS <| at0) (by kernel_rfl) (by kernel_rfl) (by kernel_rfl) (fun _ _ _ h => h) (Or.inl ⟨by rfl, ?_⟩) (by assumption) ?_
              rotate_left
              · (intro w hSw; (try dsimp only at hSw); go_simp; first | done | with_reducible rfl)
              (try simp only [Act.put, List.setIfInBounds_toArray, List.set_cons_zero, List.set_cons_succ])
              refine wpAnyH_take (i := 3) (v := ?_) (atS <| atS <| atS <| at0) (by kernel_rfl) (by kernel_rfl) (by kernel_rfl) (fun _ _ _ h => h) (Or.inl ⟨by rfl, ?_⟩) (by assumption) ?_
              rotate_left
              · (intro w hSw; (try dsimp only at hSw); go_simp; first | done | with_reducible rfl)
              (try simp only [Act.put, List.setIfInBounds_toArray, List.set_cons_zero, List.set_cons_succ])
              refine wpAnyH_take (i := 4) (v := ?_) (atS <| atS <| atS <| atS <| at0) (by kernel_rfl) (by kernel_rfl) (by kernel_rfl) (fun _ _ _ h => h) (Or.inl ⟨by rfl, ?_⟩) (by assumption) ?_
              rotate_left
              · (intro w hSw; (try dsimp only at hSw); go_simp; first | done | with_reducible rfl)
              (try simp only [Act.put, List.setIfInBounds_toArray, List.set_cons_zero, List.set_cons_succ])
              refine wpAnyH_take (i := 5) (v := ?_) (atS <| atS <| atS <| atS <| atS <| at0) (by kernel_rfl) (by kernel_rfl) (by kernel_rfl) (fun _ _ _ h => h) (Or.inl ⟨by rfl, ?_⟩) (by assumption) ?_
              rotate_left
              · (intro w hSw; (try dsimp only at hSw); go_simp; first | done | with_reducible rfl)
              (try simp only [Act.put, List.setIfInBounds_toArray, List.set_cons_zero, List.set_cons_succ])
              refine wpAnyH_take (i := 6) (v := ?_) (atS <| atS <| atS <| atS <| atS <| atS <| at0) (by kernel_rfl) (by kernel_rfl) (by kernel_rfl) (fun _ _ _ h => h) (Or.inl ⟨by rfl, ?_⟩) (by assumption) ?_
              rotate_left
              · (intro w hSw; (try dsimp only at hSw); go_simp; first | done | with_reducible rfl)
              (try simp only [Act.put, List.setIfInBounds_toArray, List.set_cons_zero, List.set_cons_succ])
              refine wpAnyH_take (i := 7) (v := ?_) (atS <| atS <| atS <| atS <| atS <| atS <| atS <| at0) (by kernel_rfl) (by kernel_rfl) (by kernel_rfl) (fun _ _ _ h => h) (Or.inl ⟨by rfl, ?_⟩) (by assumption) ?_
              rotate_left
              · (intro w hSw; (try dsimp only at hSw); go_simp; first | done | with_reducible rfl)
              (try simp only [Act.put, List.setIfInBounds_toArray, List.set_cons_zero, List.set_cons_succ])
              refine wpAnyH_take (i := 8) (v := ?_) (atS <| atS <| atS <| atS <| atS <| atS <| atS <| atS <| at0) (by kernel_rfl) (by kernel_rfl) (by kernel_rfl) (fun _ _ _ h => h) (Or.inl ⟨by rfl, ?_⟩) (by assumption) ?_
              rotate_left
              · (intro w hSw; (try dsimp only at hSw); go_simp; first | done | with_reducible rfl)
              (try simp only [Act.put, List.setIfInBounds_toArray, List.set_cons_zero, List.set_cons_succ])
              refine wpAnyH_take (i := 9) (v := ?_) (atS <| atS <| atS <| atS <| atS <| atS <| atS <| atS <| atS <| at0) (by kernel_rfl) (by kernel_rfl) (by kernel_rfl) (fun _ _ _ h => h) (Or.inl ⟨by rfl, ?_⟩) (by assumption) ?_
              rotate_left
              · (intro w hSw; (try dsimp only at hSw); go_simp; first | done | with_reducible rfl)
              (try simp only [Act.put, List.setIfInBounds_toArray, List.set_cons_zero, List.set_cons_succ])
              refine wpAnyH_take (i := 10) (v := ?_) (atS <| atS <| atS <| atS <| atS <| atS <| atS <| atS <| atS <| atS <| at0) (by kernel_rfl) (by kernel_rfl) (by kernel_rfl) (fun _ _ _ h => h) (Or.inl ⟨by rfl, ?_⟩) (by assumption) ?_
              rotate_left
              · (intro w hSw; (try dsimp only at hSw); go_simp; first | done | with_reducible rfl)
              (try simp only [Act.put, List.setIfInBounds_toArray, List.set_cons_zero, List.set_cons_succ])
              refine wpAnyH_take (i := 11) (v := ?_) (atS <| atS <| atS <| atS <| atS <| atS <| atS <| atS <| atS <| atS <| atS <| at0) (by kernel_rfl) (by kernel_rfl) (by kernel_rfl) (fun _ _ _ h => h) (Or.inl ⟨by rfl, ?_⟩) (by assumption) ?_
              rotate_left
              · (intro w hSw; (try dsimp only at hSw); go_simp; first | done | with_reducible rfl)
              (try simp only [Act.put, List.setIfInBounds_toArray, List.set_cons_zero, List.set_cons_succ])
              refine wpAnyH_take (i := 12) (v := .bool true) (atS <| atS <| atS <| atS <| atS <| atS <| atS <| atS <| atS <| atS <| atS <| atS <| at0) (by kernel_rfl) (by kernel_rfl) (by kernel_rfl) (fun _ _ _ h => h) (Or.inl ⟨by rfl, ?_⟩) (by assumption) ?_
              · (intro w hSw; (try dsimp only at hSw); go_simp; first | done | with_reducible rfl | omega | (simp; done) | (simp; omega) | (simp [*]; done))
              (try simp only [Act.put, List.setIfInBounds_toArray, List.set_cons_zero, List.set_cons_succ])
              refine wpAnyH_take (i := 13) (v := ?_) (atS <| atS <| atS <| atS <| atS <| atS <| atS <| atS <| atS <| atS <| atS <| atS <| atS <| at0) (by kernel_rfl) (by kernel_rfl) (by kernel_rfl) (fun _ _ _ h => h) (Or.inl ⟨by rfl, ?_⟩) (by assumption) ?_
              rotate_left
              · (intro w hSw; (try dsimp only at hSw); go_simp; first | done | with_reducible rfl)
              (try simp only [Act.put, List.setIfInBounds_toArray, List.set_cons_zero, List.set_cons_succ])
              refine wpAnyH_take (i := 14) (v := ?_) (atS <| atS <| atS <| atS <| atS <| atS <| atS <| atS <| atS <| atS <| atS <| atS <| atS <| atS <| at0) (by kernel_rfl) (by kernel_rfl) (by kernel_rfl) (fun _ _ _ h => h) (Or.inl ⟨by rfl, ?_⟩) (by assumption) ?_
              rotate_left
              · (intro w hSw; (try dsimp only at hSw); go_simp; first | done | with_reducible rfl)
              (try simp only [Act.put, List.setIfInBounds_toArray, List.set_cons_zero, List.set_cons_succ])
              refine wpAnyH_take (i := 15) (v := ?_) (atS <| atS <| atS <| atS <| atS <| atS <| atS <| atS <| atS <| atS <| atS <| atS <| atS <| atS <| atS <| at0) (by kernel_rfl) (by kernel_rfl) (by kernel_rfl) (fun _ _ _ h => h) (Or.inl ⟨by rfl, ?_⟩) (by assumption) ?_
              rotate_left
              · (intro w hSw; (try dsimp only at hSw); go_simp; first | done | with_reducible rfl)
              (try simp only [Act.put, List.setIfInBounds_toArray, List.set_cons_zero, List.set_cons_succ])
              refine wpAnyH_take (i := 16) (v := ?_) (atS <| atS <| atS <| atS <| atS <| atS <| atS <| atS <| atS <| atS <| atS <| atS <| atS <| atS <| atS <| atS <| at0) (by kernel_rfl) (by kernel_rfl) (by kernel_rfl) (fun _ _ _ h => h) (Or.inl ⟨by rfl, ?_⟩) (by assumption) ?_
              rotate_left
              · (intro w hSw; (try dsimp only at hSw); go_simp; first | done | with_reducible rfl)
              (try simp only [Act.put, List.setIfInBounds_toArray, List.set_cons_zero, List.set_cons_succ])
              refine wpAnyH_take (i := 17) (v := ?_) (atS <| atS <| atS <| atS <| atS <| atS <| atS <| atS <| atS <| atS <| atS <| atS <| atS <| atS <| atS <| atS <| atS <| at0) (by kernel_rfl) (by kernel_rfl) (by kernel_rfl) (fun _ _ _ h => h) (Or.inl ⟨by rfl, ?_⟩) (by assumption) ?_
              rotate_left
              · (intro w hSw; (try dsimp only at hSw); go_simp; first | done | with_reducible rfl)
              (try simp only [Act.put, List.setIfInBounds_toArray, List.set_cons_zero, List.set_cons_succ])
              refine wpAnyH_take (i := 18) (v := ?_) (atS <| atS <| atS <| atS <| atS <| atS <| atS <| atS <| atS <| atS <| atS <| atS <| atS <| atS <| atS <| atS <| atS <| atS <| at0) (by kernel_rfl) (by kernel_rfl) (by kernel_rfl) (fun _ _ _ h => h) (Or.inl ⟨by rfl, ?_⟩) (by assumption) ?_
              rotate_left
              · (intro w hSw; (try dsimp only at hSw); go_simp; first | done | with_reducible rfl)
              (try simp only [Act.put, List.setIfInBounds_toArray, List.set_cons_zero, List.set_cons_succ])
              refine wpAnyH_take (i := 19) (v := ?_) (atS <| atS <| atS <| atS <| atS <| atS <| atS <| atS <| atS <| atS <| atS <| atS <| atS <| atS <| atS <| atS <| atS <| atS <| atS <| at0) (by kernel_rfl) (by kernel_rfl) (by kernel_rfl) (fun _ _ _ h => h) (Or.inl ⟨by rfl, ?_⟩) (by assumption) ?_
              rotate_left
              · (intro w hSw; (try dsimp only at hSw); go_simp; first | done | with_reducible rfl)
              (try simp only [Act.put, List.setIfInBounds_toArray, List.set_cons_zero, List.set_cons_succ])
              refine wpAnyH_take (i := 20) (v := ?_) (atS <| atS <| atS <| atS <| atS <| atS <| atS <| atS <| atS <| atS <| atS <| atS <| atS <| atS <| atS <| atS <| atS <| atS <| atS <| atS <| at0) (by kernel_rfl) (by kernel_rfl) (by kernel_rfl) (fun _ _ _ h => h) (Or.inl ⟨by rfl, ?_⟩) (by assumption) ?_
              rotate_left
              · (intro w hSw; (try dsimp only at hSw); go_simp; first | done | with_reducible rfl)
              (try simp only [Act.put, List.setIfInBounds_toArray, List.set_cons_zero, List.set_cons_succ])
              refine wpAnyH_take (i := 21) (v := ?_) (atS <| atS <| atS <| atS <| atS <| atS <| atS <| atS <| atS <| atS <| atS <| atS <| atS <| atS <| atS <| atS <| atS <| atS <| atS <| atS <| atS <| at0) (by kernel_rfl) (by kernel_rfl) (by kernel_rfl) (fun _ _ _ h => h) (Or.inl ⟨by rfl, ?_⟩) (by assumption) ?_
              rotate_left
              · (intro w hSw; (try dsimp only at hSw); go_simp; first | done | with_reducible rfl)
              (try simp only [Act.put, List.setIfInBounds_toArray, List.set_cons_zero, List.set_cons_succ])
              refine wpAnyH_take (i := 22) (v := .bool true) (atS <| atS <| atS <| atS <| atS <| atS <| atS <| atS <| atS <| atS <| atS <| atS <| atS <| atS <| atS <| atS <| atS <| atS <| atS <| atS <| atS <| atS <| at0) (by kernel_rfl) (by kernel_rfl) (by kernel_rfl) (fun _ _ _ h => h) (Or.inl ⟨by rfl, ?_⟩) (by assumption) ?_
              · (intro w hSw; (try dsimp only at hSw); go_simp; first | done | with_reducible rfl | omega | (simp; done) | (simp; omega) | (simp [*]; done))
              (try simp only [Act.put, List.setIfInBounds_toArray, List.set_cons_zero, List.set_cons_succ])
              refine wpAnyH_take (i := 23) (v := ?_) (atS <| atS <| atS <| atS <| atS <| atS <| atS <| atS <| atS <| atS <| atS <| atS <| atS <| atS <| atS <| atS <| atS <| atS <| atS <| atS <| atS <| atS <| atS <| at0) (by kernel_rfl) (by kernel_rfl) (by kernel_rfl) (fun _ _ _ h => h) (Or.inl ⟨by rfl, ?_⟩) (by assumption) ?_
              rotate_left
              · (intro w hSw; (try dsimp only at hSw); go_simp; first | done | with_reducible rfl)
              (try simp only [Act.put, List.setIfInBounds_toArray, List.set_cons_zero, List.set_cons_succ])
              refine wpAnyH_take (i := 24) (v := ?_) (atS <| atS <| atS <| atS <| atS <| atS <| atS <| atS <| atS <| atS <| atS <| atS <| atS <| atS <| atS <| atS <| atS <| atS <| atS <| atS <| atS <| atS <| atS <| atS <| at0) (by kernel_rfl) (by kernel_rfl) (by kernel_rfl) (fun _ _ _ h => h) (Or.inl ⟨by rfl, ?_⟩) (by assumption) ?_
              rotate_left
              · (intro w hSw; (try dsimp only at hSw); go_simp; first | done | with_reducible rfl)
              (try simp only [Act.put, List.setIfInBounds_toArray, List.set_cons_zero, List.set_cons_succ])
              refine wpAnyH_take (i := 25) (v := ?_) (atS <| atS <| atS <| atS <| atS <| atS <| atS <| atS <| atS <| atS <| atS <| atS <| atS <| atS <| atS <| atS <| atS <| atS <| atS <| atS <| atS <| atS <| atS <| atS <| atS <| at0) (by kernel_rfl) (by kernel_rfl) (by kernel_rfl) (fun _ _ _ h => h) (Or.inl ⟨by rfl, ?_⟩) (by assumption) ?_
              rotate_left
              · (intro w hSw; (try dsimp only at hSw); go_simp; first | done | with_reducible rfl)
              (try simp only [Act.put, List.setIfInBounds_toArray, List.set_cons_zero, List.set_cons_succ])
              refine wpAnyH_take (i := 26) (v := ?_) (atS <| atS <| atS <| atS <| atS <| atS <| atS <| atS <| atS <| atS <| atS <| atS <| atS <| atS <| atS <| atS <| atS <| atS <| atS <| atS <| atS <| atS <| atS <| atS <| atS <| atS <| at0) (by kernel_rfl) (by kernel_rfl) (by kernel_rfl) (fun _ _ _ h => h) (Or.inl ⟨by rfl, ?_⟩) (by assumption) ?_
              rotate_left
              · (intro w hSw; (try dsimp only at hSw); go_simp; first | done | with_reducible rfl)
              (try simp only [Act.put, List.setIfInBounds_toArray, List.set_cons_zero, List.set_cons_succ])
              refine wpAnyH_take (i := 27) (v := ?_) (atS <| atS <| atS <| atS <| atS <| atS <| atS <| atS <| atS <| atS <| atS <| atS <| atS <| atS <| atS <| atS <| atS <| atS <| atS <| atS <| atS <| atS <| atS <| atS <| atS <| atS <| atS <| at0) (by kernel_rfl) (by kernel_rfl) (by kernel_rfl) (fun _ _ _ h => h) (Or.inl ⟨by rfl, ?_⟩) (by assumption) ?_
              rotate_left
              · (intro w hSw; (try dsimp only at hSw); go_simp; first | done | with_reducible rfl)
              (try simp only [Act.put, List.setIfInBounds_toArray, List.set_cons_zero, List.set_cons_succ])
              refine wpAnyH_take (i := 28) (v := ?_) (atS <| atS <| atS <| atS <| atS <| atS <| atS <| atS <| atS <| atS <| atS <| atS <| atS <| atS <| atS <| atS <| atS <| atS <| atS <| atS <| atS <| atS <| atS <| atS <| atS <| atS <| atS <| atS <| at0) (by kernel_rfl) (by kernel_rfl) (by kernel_rfl) (fun _ _ _ h => h) (Or.inl ⟨by rfl, ?_⟩) (by assumption) ?_
              rotate_left
              · (intro w hSw; (try dsimp only at hSw); go_simp; first | done | with_reducible rfl)
              (try simp only [Act.put, List.setIfInBounds_toArray, List.set_cons_zero, List.set_cons_succ])
              refine wpAnyH_take (i := 29) (v := ?_) (atS <| atS <| atS <| atS <| atS <| atS <| atS <| atS <| atS <| atS <| atS <| atS <| atS <| atS <| atS <| atS <| atS <| atS <| atS <| atS <| atS <| atS <| atS <| atS <| atS <| atS <| atS <| atS <| atS <| at0) (by kernel_rfl) (by kernel_rfl) (by kernel_rfl) (fun _ _ _ h => h) (Or.inl ⟨by rfl, ?_⟩) (by assumption) ?_
              rotate_left
              · (intro w hSw; (try dsimp only at hSw); go_simp; first | done | with_reducible rfl)
              (try simp only [Act.put, List.setIfInBounds_toArray, List.set_cons_zero, List.set_cons_succ])
              refine wpAnyH_take (i := 30) (v := ?_) (atS <| atS <| atS <| atS <| atS <| atS <| atS <| atS <| atS <| atS <| atS <| atS <| atS <| atS <| atS <| atS <| atS <| atS <| atS <| atS <| atS <| atS <| atS <| atS <| atS <| atS <| atS <| atS <| atS <| atS <| at0) (by kernel_rfl) (by kernel_rfl) (by kernel_rfl) (fun _ _ _ h => h) (Or.inl ⟨by rfl, ?_⟩) (by assumption) ?_
              rotate_left
              · (intro w hSw; (try dsimp only at hSw); go_simp; first | done | with_reducible rfl)
              (try simp only [Act.put, List.setIfInBounds_toArray, List.set_cons_zero, List.set_cons_succ])
              refine wpAnyH_take (i := 31) (v := ?_) (atS <| atS <| atS <| atS <| atS <| atS <| atS <| atS <| atS <| atS <| atS <| atS <| atS <| atS <| atS <| atS <| atS <| atS <| atS <| atS <| atS <| atS <| atS <| atS <| atS <| atS <| atS <| atS <| atS <| atS <| atS <| at0) (by kernel_rfl) (by kernel_rfl) (by kernel_rfl) (fun _ _ _ h => h) (Or.inl ⟨by rfl, ?_⟩) (by assumption) ?_
              rotate_left
              · (intro w hSw; (try dsimp only at hSw); go_simp; first | done | with_reducible rfl)
              (try simp only [Act.put, List.setIfInBounds_toArray, List.set_cons_zero, List.set_cons_succ])
              refine wpAnyH_take (i := 32) (v := .bool false) (atS <| atS <| atS <| atS <| atS <| atS <| atS <| atS <| atS <| atS <| atS <| atS <| atS <| atS <| atS <| atS <| atS <| atS <| atS <| atS <| atS <| atS <| atS <| atS <| atS <| atS <| atS <| atS <| atS <| atS <| atS <| atS <| at0) (by kernel_rfl) (by kernel_rfl) (by kernel_rfl) (fun _ _ _ h => h) (Or.inl ⟨by rfl, ?_⟩) (by assumption) ?_
              · (intro w hSw; (try dsimp only at hSw); go_simp; first | done | with_reducible rfl | omega | (simp; done) | (simp; omega) | (simp [*]; done))
              (try simp only [Act.put, List.setIfInBounds_toArray, List.set_cons_zero, List.set_cons_succ])
              refine wpAnyH_take (i := 33) (v := ?_) (atS <| atS <| atS <| atS <| atS <| atS <| atS <| atS <| atS <| atS <| atS <| atS <| atS <| atS <| atS <| atS <| atS <| atS <| atS <| atS <| atS <| atS <| atS <| atS <| atS <| atS <| atS <| atS <| atS <| atS <| atS <| atS <| atS <| at0) (by kernel_rfl) (by kernel_rfl) (by kernel_rfl) (fun _ _ _ h => h) (Or.inl ⟨by rfl, ?_⟩) (by assumption) ?_
              rotate_left
              · (intro w hSw; (try dsimp only at hSw); go_simp; first | done | with_reducible rfl)
              (try simp only [Act.put, List.setIfInBounds_toArray, List.set_cons_zero, List.set_cons_succ])
              refine wpAnyH_done (by kernel_rfl) ?_ _
              go_wp2_with fail
              go_roundw
              case rel => exact ⟨n + 1, by omega, by rw [HE.out, HDR.out]; simp [Qr.opensF, Qr.sameK, Qr.St.key, h0, h1, h2], by go_num, hbr.drew⟩
              case measure => simp [intOf]; omega
          · go_wp2_with fail
            refine wp_region_held_drew (S := fun W => W.cell? ⟨bo, oo + n, none⟩ = some (.bool true) ∧ W.cell? ⟨bs, os + n * 5, none⟩ = some (.int .i64 x0) ∧ W.cell? ⟨bs, os + n * 5 + 1, none⟩ = some (.int .i64 x1) ∧ W.cell? ⟨bs, os + n * 5 + 2, none⟩ = some (.int .i64 x2) ∧ W.cell? ⟨w.heap.size, 1, none⟩ = some (.int .i64 r1) ∧ W.cell? ⟨w.heap.size, 3, none⟩ = some (.int .i64 r3) ∧ W.cell? ⟨w.heap.size, 4, none⟩ = some (.int .i64 r4)) (by kernel_rfl) (⟨co, c0, c1, c2, q1, q3, q4⟩) (fun hHeld => ?_)
            refine wpAnyH_take (i := 0) (v := ?_) at0 (by kernel_rfl) (by kernel_rfl) (by kernel_rfl) (fun _ _ _ h => h) (Or.inl ⟨by rfl, ?_⟩) (by assumption) ?_
            rotate_left
            · (intro w hSw; (try dsimp only at hSw); go_simp; first | done | with_reducible rfl)
            (try simp only [Act.put, List.setIfInBounds_toArray, List.set_cons_zero, List.set_cons_succ])
            refine wpAnyH_take (i := 1) (v := ?_) (atS <| at0) (by kernel_rfl) (by kernel_rfl) (by kernel_rfl) (fun _ _ _ h => h) (Or.inl ⟨by rfl, ?_⟩) (by assumption) ?_
            rotate_left
            · (intro w hSw; (try dsimp only at hSw); go_simp; first | done | with_reducible rfl)
            (try simp only [Act.put, List.setIfInBounds_toArray, List.set_cons_zero, List.set_cons_succ])
            refine wpAnyH_take (i := 2) (v := ?_) (atS <| atS <| at0) (by kernel_rfl) (by kernel_rfl) (by kernel_rfl) (fun _ _ _ h => h) (Or.inl ⟨by rfl, ?_⟩) (by assumption) ?_
            rotate_left
            · (intro w hSw; (try dsimp only at hSw); go_simp; first | done | with_reducible rfl)
            (try simp only [Act.put, List.setIfInBounds_toArray, List.set_cons_zero, List.set_cons_succ])
            refine wpAnyH_take (i := 3) (v := ?_) (atS <| atS <| atS <| at0) (by kernel_rfl) (by kernel_rfl) (by kernel_rfl) (fun _ _ _ h => h) (Or.inl ⟨by rfl, ?_⟩) (by assumption) ?_
            rotate_left
            · (intro w hSw; (try dsimp only at hSw); go_simp; first | done | with_reducible rfl)
            (try simp only [Act.put, List.setIfInBounds_toArray, List.set_cons_zero, List.set_cons_succ])
            refine wpAnyH_take (i := 4) (v := ?_) (atS <| atS <| atS <| atS <| at0) (by kernel_rfl) (by kernel_rfl) (by kernel_rfl) (fun _ _ _ h => h) (Or.inl ⟨by rfl, ?_⟩) (by assumption) ?_
            rotate_left
            · (intro w hSw; (try dsimp only at hSw); go_simp; first | done | with_reducible rfl)
            (try simp only [Act.put, List.setIfInBounds_toArray, List.set_cons_zero, List.set_cons_succ])
            refine wpAnyH_take (i := 5) (v := ?_) (atS <| atS <| atS <| atS <| atS <| at0) (by kernel_rfl) (by kernel_rfl) (by kernel_rfl) (fun _ _ _ h => h) (Or.inl ⟨by rfl, ?_⟩) (by assumption) ?_
            rotate_left
            · (intro w hSw; (try dsimp only at hSw); go_simp; first | done | with_reducible rfl)
            (try simp only [Act.put, List.setIfInBounds_toArray, List.set_cons_zero, List.set_cons_succ])
            refine wpAnyH_take (i := 6) (v := ?_) (atS <| atS <| atS <| atS <| atS <| atS <| at0) (by kernel_rfl) (by kernel_rfl) (by kernel_rfl) (fun _ _ _ h => h) (Or.inl ⟨by rfl, ?_⟩) (by assumption) ?_
            rotate_left
            · (intro w hSw; (try dsimp only at hSw); go_simp; first | done | with_reducible rfl)
            (try simp only [Act.put, List.setIfInBounds_toArray, List.set_cons_zero, List.set_cons_succ])
            refine wpAnyH_take (i := 7) (v := ?_) (atS <| atS <| atS <| atS <| atS <| atS <| atS <| at0) (by kernel_rfl) (by kernel_rfl) (by kernel_rfl) (fun _ _ _ h => h) (Or.inl ⟨by rfl, ?_⟩) (by assumption) ?_
            rotate_left
            · (intro w hSw; (try dsimp only at hSw); go_simp; first | done | with_reducible rfl)
            (try simp only [Act.put, List.setIfInBounds_toArray, List.set_cons_zero, List.set_cons_succ])
            refine wpAnyH_take (i := 8) (v := ?_) (atS <| atS <| atS <| atS <| atS <| atS <| atS <| atS <| at0) (by kernel_rfl) (by kernel_rfl) (by kernel_rfl) (fun _ _ _ h => h) (Or.inl ⟨by rfl, ?_⟩) (by assumption) ?_
            rotate_left
            · (intro w hSw; (try dsimp only at hSw); go_simp; first | done | with_reducible rfl)
            (try simp only [Act.put, List.setIfInBounds_toArray, List.set_cons_zero, List.set_cons_succ])
            refine wpAnyH_take (i := 9) (v := ?_) (atS <| atS <| atS <| atS <| atS <| atS <| atS <| atS <| atS <| at0) (by kernel_rfl) (by kernel_rfl) (by kernel_rfl) (fun _ _ _ h => h) (Or.inl ⟨by rfl, ?_⟩) (by assumption) ?_
            rotate_left
            · (intro w hSw; (try dsimp only at hSw); go_simp; first | done | with_reducible rfl)
            (try simp only [Act.put, List.setIfInBounds_toArray, List.set_cons_zero, List.set_cons_succ])
            refine wpAnyH_take (i := 10) (v := ?_) (atS <| atS <| atS <| atS <| atS <| atS <| atS <| atS <| atS <| atS <| at0) (by kernel_rfl) (by kernel_rfl) (by kernel_rfl) (fun _ _ _ h => h) (Or.inl ⟨by rfl, ?_⟩) (by assumption) ?_
            rotate_left
            · (intro w hSw; (try dsimp only at hSw); go_simp; first | done | with_reducible rfl)
            (try simp only [Act.put, List.setIfInBounds_toArray, List.set_cons_zero, List.set_cons_succ])
            refine wpAnyH_take (i := 11) (v := ?_) (atS <| atS <| atS <| atS <| atS <| atS <| atS <| atS <| atS <| atS <| atS <| at0) (by kernel_rfl) (by kernel_rfl) (by kernel_rfl) (fun _ _ _ h => h) (Or.inl ⟨by rfl, ?_⟩) (by assumption) ?_
            rotate_left
            · (intro w hSw; (try dsimp only at hSw); go_simp; first | done | with_reducible rfl)
            (try simp only [Act.put, List.setIfInBounds_toArray, List.set_cons_zero, List.set_cons_succ])
            refine wpAnyH_take (i := 12) (v := .bool true) (atS <| atS <| atS <| atS <| atS <| atS <| atS <| atS <| atS <| atS <| atS <| atS <| at0) (by kernel_rfl) (by kernel_rfl) (by kernel_rfl) (fun _ _ _ h => h) (Or.inl ⟨by rfl, ?_⟩) (by assumption) ?_
            · (intro w hSw; (try dsimp only at hSw); go_simp; first | done | with_reducible rfl | omega | (simp; done) | (simp; omega) | (simp [*]; done))
            (try simp only [Act.put, List.setIfInBounds_toArray, List.set_cons_zero, List.set_cons_succ])
            refine wpAnyH_take (i := 13) (v := ?_) (atS <| atS <| atS <| atS <| atS <| atS <| atS <| atS <| atS <| atS <| atS <| atS <| atS <| at0) (by kernel_rfl) (by kernel_rfl) (by kernel_rfl) (fun _ _ _ h => h) (Or.inl ⟨by rfl, ?_⟩) (by assumption) ?_
            rotate_left
            · (intro w hSw; (try dsimp only at hSw); go_simp; first | done | with_reducible rfl)
            (try simp only [Act.put, List.setIfInBounds_toArray, List.set_cons_zero, List.set_cons_succ])
            refine wpAnyH_take (i := 14) (v := ?_) (atS <| atS <| atS <| atS <| atS <| atS <| atS <| atS <| atS <| atS <| atS <| atS <| atS <| atS <| at0) (by kernel_rfl) (by kernel_rfl) (by kernel_rfl) (fun _ _ _ h => h) (Or.inl ⟨by rfl, ?_⟩) (by assumption) ?_
            rotate_left
            · (intro w hSw; (try dsimp only at hSw); go_simp; first | done | with_reducible rfl)
            (try simp only [Act.put, List.setIfInBounds_toArray, List.set_cons_zero, List.set_cons_succ])
            refine wpAnyH_take (i := 15) (v := ?_) (atS <| atS <| atS <| atS <| atS <| atS <| atS <| atS <| atS <| atS <| atS <| atS <| atS <| atS <| atS <| at0) (by kernel_rfl) (by kernel_rfl) (by kernel_rfl) (fun _ _ _ h => h) (Or.inl ⟨by rfl, ?_⟩) (by assumption) ?_
            rotate_left
            · (intro w hSw; (try dsimp only at hSw); go_simp; first | done | with_reducible rfl)
            (try simp only [Act.put, List.setIfInBounds_toArray, List.set_cons_zero, List.set_cons_succ])
            refine wpAnyH_take (i := 16) (v := ?_) (atS <| atS <| atS <| atS <| atS <| atS <| atS <| atS <| atS <| atS <| atS <| atS <| atS <| atS <| atS <| atS <| at0) (by kernel_rfl) (by kernel_rfl) (by kernel_rfl) (fun _ _ _ h => h) (Or.inl ⟨by rfl, ?_⟩) (by assumption) ?_
            rotate_left
            · (intro w hSw; (try dsimp only at hSw); go_simp; first | done | with_reducible rfl)
            (try simp only [Act.put, List.setIfInBounds_toArray, List.set_cons_zero, List.set_cons_succ])
            refine wpAnyH_take (i := 17) (v := ?_) (atS <| atS <| atS <| atS <| atS <| atS <| atS <| atS <| atS <| atS <| atS <| atS <| atS <| atS <| atS <| atS <| atS <| at0) (by kernel_rfl) (by kernel_rfl) (by kernel_rfl) (fun _ _ _ h => h) (Or.inl ⟨by rfl, ?_⟩) (by assumption) ?_
            rotate_left
            · (intro w hSw; (try dsimp only at hSw); go_simp; first | done | with_reducible rfl)
            (try simp only [Act.put, List.setIfInBounds_toArray, List.set_cons_zero, List.set_cons_succ])
            refine wpAnyH_take (i := 18) (v := ?_) (atS <| atS <| atS <| atS <| atS <| atS <| atS <| atS <| atS <| atS <| atS <| atS <| atS <| atS <| atS <| atS <| atS <| atS <| at0) (by kernel_rfl) (by kernel_rfl) (by kernel_rfl) (fun _ _ _ h => h) (Or.inl ⟨by rfl, ?_⟩) (by assumption) ?_
            rotate_left
            · (intro w hSw; (try dsimp only at hSw); go_simp; first | done | with_reducible rfl)
            (try simp only [Act.put, List.setIfInBounds_toArray, List.set_cons_zero, List.set_cons_succ])
            refine wpAnyH_take (i := 19) (v := ?_) (atS <| atS <| atS <| atS <| atS <| atS <| atS <| atS <| atS <| atS <| atS <| atS <| atS <| atS <| atS <| atS <| atS <| atS <| atS <| at0) (by kernel_rfl) (by kernel_rfl) (by kernel_rfl) (fun _ _ _ h => h) (Or.inl ⟨by rfl, ?_⟩) (by assumption) ?_
            rotate_left
            · (intro w hSw; (try dsimp only at hSw); go_simp; first | done | with_reducible rfl)
            (try simp only [Act.put, List.setIfInBounds_toArray, List.set_cons_zero, List.set_cons_succ])
            refine wpAnyH_take (i := 20) (v := ?_) (atS <| atS <| atS <| atS <| atS <| atS <| atS <| atS <| atS <| atS <| atS <| atS <| atS <| atS <| atS <| atS <| atS <| atS <| atS <| atS <| at0) (by kernel_rfl) (by kernel_rfl) (by kernel_rfl) (fun _ _ _ h => h) (Or.inl ⟨by rfl, ?_⟩) (by assumption) ?_
            rotate_left
            · (intro w hSw; (try dsimp only at hSw); go_simp; first | done | with_reducible rfl)
            (try simp only [Act.put, List.setIfInBounds_toArray, List.set_cons_zero, List.set_cons_succ])
            refine wpAnyH_take (i := 21) (v := ?_) (atS <| atS <| atS <| atS <| atS <| atS <| atS <| atS <| atS <| atS <| atS <| atS <| atS <| atS <| atS <| atS <| atS <| atS <| atS <| atS <| atS <| at0) (by kernel_rfl) (by kernel_rfl) (by kernel_rfl) (fun _ _ _ h => h) (Or.inl ⟨by rfl, ?_⟩) (by assumption) ?_
            rotate_left
            · (intro w hSw; (try dsimp only at hSw); go_simp; first | done | with_reducible rfl)
            (try simp only [Act.put, List.setIfInBounds_toArray, List.set_cons_zero, List.set_cons_succ])
            refine wpAnyH_take (i := 22) (v := .bool false) (atS <| atS <| atS <| atS <| atS <| atS <| atS <| atS <| atS <| atS <| atS <| atS <| atS <| atS <| atS <| atS <| atS <| atS <| atS <| atS <| atS <| atS <| at0) (by kernel_rfl) (by kernel_rfl) (by kernel_rfl) (fun _ _ _ h => h) (Or.inl ⟨by rfl, ?_⟩) (by assumption) ?_
            · (intro w hSw; (try dsimp only at hSw); go_simp; first | done | with_reducible rfl | omega | (simp; done) | (simp; omega) | (simp [*]; done))
            (try simp only [Act.put, List.setIfInBounds_toArray, List.set_cons_zero, List.set_cons_succ])
            refine wpAnyH_take (i := 23) (v := ?_) (atS <| atS <| atS <| atS <| atS <| atS <| atS <| atS <| atS <| atS <| atS <| atS <| atS <| atS <| atS <| atS <| atS <| atS <| atS <| atS <| atS <| atS <| atS <| at0) (by kernel_rfl) (by kernel_rfl) (by kernel_rfl) (fun _ _ _ h => h) (Or.inl ⟨by rfl, ?_⟩) (by assumption) ?_
            rotate_left
            · (intro w hSw; (try dsimp only at hSw); go_simp; first | done | with_reducible rfl)
            (try simp only [Act.put, List.setIfInBounds_toArray, List.set_cons_zero, List.set_cons_succ])
            refine wpAnyH_take (i := 24) (v := ?_) (atS <| atS <| atS <| atS <| atS <| atS <| atS <| atS <| atS <| atS <| atS <| atS <| atS <| atS <| atS <| atS <| atS <| atS <| atS <| atS <| atS <| atS <| atS <| atS <| at0) (by kernel_rfl) (by kernel_rfl) (by kernel_rfl) (fun _ _ _ h => h) (Or.inl ⟨by rfl, ?_⟩) (by assumption) ?_
            rotate_left
            · (intro w hSw; (try dsimp only at hSw); go_simp; first | done | with_reducible rfl)
            (try simp only [Act.put, List.setIfInBounds_toArray, List.set_cons_zero, List.set_cons_succ])
            refine wpAnyH_take (i := 25) (v := undef) (atS <| atS <| atS <| atS <| atS <| atS <| atS <| atS <| atS <| atS <| atS <| atS <| atS <| atS <| atS <| atS <| atS <| atS <| atS <| atS <| atS <| atS <| atS <| atS <| atS <| at0) (by kernel_rfl) (by kernel_rfl) (by kernel_rfl) (fun _ _ _ h => h) (Or.inr ⟨by rfl, rfl⟩) (by assumption) ?_
            (try simp only [Act.put, List.setIfInBounds_toArray, List.set_cons_zero, List.set_cons_succ])
            refine wpAnyH_take (i := 26) (v := undef) (atS <| atS <| atS <| atS <| atS <| atS <| atS <| atS <| atS <| atS <| atS <| atS <| atS <| atS <| atS <| atS <| atS <| atS <| atS <| atS <| atS <| atS <| atS <| atS <| atS <| atS <| at0) (by kernel_rfl) (by kernel_rfl) (by kernel_rfl) (fun _ _ _ h => h) (Or.inr ⟨by rfl, rfl⟩) (by assumption) ?_
            (try simp only [Act.put, List.setIfInBounds_toArray, List.set_cons_zero, List.set_cons_succ])
            refine wpAnyH_take (i := 27) (v := undef) (atS <| atS <| atS <| atS <| atS <| atS <| atS <| atS <| atS <| atS <| atS <| atS <| atS <| atS <| atS <| atS <| atS <| atS <| atS <| atS <| atS <| atS <| atS <| atS <| atS <| atS <| atS <| at0) (by kernel_rfl) (by kernel_rfl) (by kernel_rfl) (fun _ _ _ h => h) (Or.inr ⟨by rfl, rfl⟩) (by assumption) ?_
            (try simp only [Act.put, List.setIfInBounds_toArray, List.set_cons_zero, List.set_cons_succ])
            refine wpAnyH_take (i := 28) (v := undef) (atS <| atS <| atS <| atS <| atS <| atS <| atS <| atS <| atS <| atS <| atS <| atS <| atS <| atS <| atS <| atS <| atS <| atS <| atS <| atS <| atS <| atS <| atS <| atS <| atS <| atS <| atS <| atS <| at0) (by kernel_rfl) (by kernel_rfl) (by kernel_rfl) (fun _ _ _ h => h) (Or.inr ⟨by rfl, rfl⟩) (by assumption) ?_
            (try simp only [Act.put, List.setIfInBounds_toArray, List.set_cons_zero, List.set_cons_succ])
            refine wpAnyH_take (i := 29) (v := undef) (atS <| atS <| atS <| atS <| atS <| atS <| atS <| atS <| atS <| atS <| atS <| atS <| atS <| atS <| atS <| atS <| atS <| atS <| atS <| atS <| atS <| atS <| atS <| atS <| atS <| atS <| atS <| atS <| atS <| at0) (by kernel_rfl) (by kernel_rfl) (by kernel_rfl) (fun _ _ _ h => h) (Or.inr ⟨by rfl, rfl⟩) (by assumption) ?_
            (try simp only [Act.put, List.setIfInBounds_toArray, List.set_cons_zero, List.set_cons_succ])
            refine wpAnyH_take (i := 30) (v := undef) (atS <| atS <| atS <| atS <| atS <| atS <| atS <| atS <| atS <| atS <| atS <| atS <| atS <| atS <| atS <| atS <| atS <| atS <| atS <| atS <| atS <| atS <| atS <| atS <| atS <| atS <| atS <| atS <| atS <| atS <| at0) (by kernel_rfl) (by kernel_rfl) (by kernel_rfl) (fun _ _ _ h => h) (Or.inr ⟨by rfl, rfl⟩) (by assumption) ?_
            (try simp only [Act.put, List.setIfInBounds_toArray, List.set_cons_zero, List.set_cons_succ])
            refine wpAnyH_take (i := 31) (v := undef) (atS <| atS <| atS <| atS <| atS <| atS <| atS <| atS <| atS <| atS <| atS <| atS <| atS <| atS <| atS <| atS <| atS <| atS <| atS <| atS <| atS <| atS <| atS <| atS <| atS <| atS <| atS <| atS <| atS <| atS <| atS <| at0) (by kernel_rfl) (by kernel_rfl) (by kernel_rfl) (fun _ _ _ h => h) (Or.inr ⟨by rfl, rfl⟩) (by assumption) ?_
            (try simp only [Act.put, List.setIfInBounds_toArray, List.set_cons_zero, List.set_cons_succ])
            refine wpAnyH_take (i := 32) (v := undef) (atS <| atS <| atS <| atS <| atS <| atS <| atS <| atS <| atS <| atS <| atS <| atS <| atS <| atS <| atS <| atS <| atS <| atS <| atS <| atS <| atS <| atS <| atS <| atS <| atS <| atS <| atS <| atS <| atS <| atS <| atS <| atS <| at0) (by kernel_rfl) (by kernel_rfl) (by kernel_rfl) (fun _ _ _ h => h) (Or.inr ⟨by rfl, rfl⟩) (by assumption) ?_
            (try simp only [Act.put, List.setIfInBounds_toArray, List.set_cons_zero, List.set_cons_succ])
            refine wpAnyH_take (i := 33) (v := ?_) (atS <| atS <| atS <| atS <| atS <| atS <| atS <| atS <| atS <| atS <| atS <| atS <| atS <| atS <| atS <| atS <| atS <| atS <| atS <| atS <| atS <| atS <| atS <| atS <| atS <| atS <| atS <| atS <| atS <| atS <| atS <| atS <| atS <| at0) (by kernel_rfl) (by kernel_rfl) (by kernel_rfl) (fun _ _ _ h => h) (Or.inl ⟨by rfl, ?_⟩) (by assumption) ?_
            rotate_left
            · (intro w hSw; (try dsimp only at hSw); go_simp; first | done | with_reducible rfl)
            (try simp only [Act.put, List.setIfInBounds_toArray, List.set_cons_zero, List.set_cons_succ])
            refine wpAnyH_done (by kernel_rfl) ?_ _
            go_wp2_with fail
            go_roundw
            case rel => exact ⟨n + 1, by omega, by rw [HE.out, HDR.out]; simp [Qr.opensF, Qr.sameK, Qr.St.key, h0, h1], by go_num, hbr.drew⟩
            case measure => simp [intOf]; omega
        · go_wp2_with fail
          refine wp_region_held_drew (S := fun W => W.cell? ⟨bo, oo + n, none⟩ = some (.bool true) ∧ W.cell? ⟨bs, os + n * 5, none⟩ = some (.int .i64 x0) ∧ W.cell? ⟨bs, os + n * 5 + 1, none⟩ = some (.int .i64 x1) ∧ W.cell? ⟨bs, os + n * 5 + 2, none⟩ = some (.int .i64 x2) ∧ W.cell? ⟨w.heap.size, 1, none⟩ = some (.int .i64 r1) ∧ W.cell? ⟨w.heap.size, 3, none⟩ = some (.int .i64 r3) ∧ W.cell? ⟨w.heap.size, 4, none⟩ = some (.int .i64 r4)) (by kernel_rfl) (⟨co, c0, c1, c2, q1, q3, q4⟩) (fun hHeld => ?_)
          refine wpAnyH_take (i := 0) (v := ?_) at0 (by kernel_rfl) (by kernel_rfl) (by kernel_rfl) (fun _ _ _ h => h) (Or.inl ⟨by rfl, ?_⟩) (by assumption) ?_
          rotate_left
          · (intro w hSw; (try dsimp only at hSw); go_simp; first | done | with_reducible rfl)
          (try simp only [Act.put, List.setIfInBounds_toArray, List.set_cons_zero, List.set_cons_succ])
          refine wpAnyH_take (i := 1) (v := ?_) (atS <| at0) (by kernel_rfl) (by kernel_rfl) (by kernel_rfl) (fun _ _ _ h => h) (Or.inl ⟨by rfl, ?_⟩) (by assumption) ?_
          rotate_left
          · (intro w hSw; (try dsimp only at hSw); go_simp; first | done | with_reducible rfl)
          (try simp only [Act.put, List.setIfInBounds_toArray, List.set_cons_zero, List.set_cons_succ])
          refine wpAnyH_take (i := 2) (v := ?_) (atS <| atS <| at0) (by kernel_rfl) (by kernel_rfl) (by kernel_rfl) (fun _ _ _ h => h) (Or.inl ⟨by rfl, ?_⟩) (by assumption) ?_
          rotate_left
          · (intro w hSw; (try dsimp only at hSw); go_simp; first | done | with_reducible rfl)
          (try simp only [Act.put, List.setIfInBounds_toArray, List.set_cons_zero, List.set_cons_succ])
          refine wpAnyH_take (i := 3) (v := ?_) (atS <| atS <| atS <| at0) (by kernel_rfl) (by kernel_rfl) (by kernel_rfl) (fun _ _ _ h => h) (Or.inl ⟨by rfl, ?_⟩) (by assumption) ?_
          rotate_left
          · (intro w hSw; (try dsimp only at hSw); go_simp; first | done | with_reducible rfl)
          (try simp only [Act.put, List.setIfInBounds_toArray, List.set_cons_zero, List.set_cons_succ])
          refine wpAnyH_take (i := 4) (v := ?_) (atS <| atS <| atS <| atS <| at0) (by kernel_rfl) (by kernel_rfl) (by kernel_rfl) (fun _ _ _ h => h) (Or.inl ⟨by rfl, ?_⟩) (by assumption) ?_
          rotate_left
          · (intro w hSw; (try dsimp only at hSw); go_simp; first | done | with_reducible rfl)
          (try simp only [Act.put, List.setIfInBounds_toArray, List.set_cons_zero, List.set_cons_succ])
          refine wpAnyH_take (i := 5) (v := ?_) (atS <| atS <| atS <| atS <| atS <| at0) (by kernel_rfl) (by kernel_rfl) (by kernel_rfl) (fun _ _ _ h => h) (Or.inl ⟨by rfl, ?_⟩) (by assumption) ?_
          rotate_left
          · (intro w hSw; (try dsimp only at hSw); go_simp; first | done | with_reducible rfl)
          (try simp only [Act.put, List.setIfInBounds_toArray, List.set_cons_zero, List.set_cons_succ])
          refine wpAnyH_take (i := 6) (v := ?_) (atS <| atS <| atS <| atS <| atS <| atS <| at0) (by kernel_rfl) (by kernel_rfl) (by kernel_rfl) (fun _ _ _ h => h) (Or.inl ⟨by rfl, ?_⟩) (by assumption) ?_
          rotate_left
          · (intro w hSw; (try dsimp only at hSw); go_simp; first | done | with_reducible rfl)
          (try simp only [Act.put, List.setIfInBounds_toArray, List.set_cons_zero, List.set_cons_succ])
          refine wpAnyH_take (i := 7) (v := ?_) (atS <| atS <| atS <| atS <| atS <| atS <| atS <| at0) (by kernel_rfl) (by kernel_rfl) (by kernel_rfl) (fun _ _ _ h => h) (Or.inl ⟨by rfl, ?_⟩) (by assumption) ?_
          rotate_left
          · (intro w hSw; (try dsimp only at hSw); go_simp; first | done | with_reducible rfl)
          (try simp only [Act.put, List.setIfInBounds_toArray, List.set_cons_zero, List.set_cons_succ])
          refine wpAnyH_take (i := 8) (v := ?_) (atS <| atS <| atS <| atS <| atS <| atS <| atS <| atS <| at0) (by kernel_rfl) (by kernel_rfl) (by kernel_rfl) (fun _ _ _ h => h) (Or.inl ⟨by rfl, ?_⟩) (by assumption) ?_
          rotate_left
          · (intro w hSw; (try dsimp only at hSw); go_simp; first | done | with_reducible rfl)
          (try simp only [Act.put, List.setIfInBounds_toArray, List.set_cons_zero, List.set_cons_succ])
          refine wpAnyH_take (i := 9) (v := ?_) (atS <| atS <| atS <| atS <| atS <| atS <| atS <| atS <| atS <| at0) (by kernel_rfl) (by kernel_rfl) (by kernel_rfl) (fun _ _ _ h => h) (Or.inl ⟨by rfl, ?_⟩) (by assumption) ?_
          rotate_left
          · (intro w hSw; (try dsimp only at hSw); go_simp; first | done | with_reducible rfl)
          (try simp only [Act.put, List.setIfInBounds_toArray, List.set_cons_zero, List.set_cons_succ])
          refine wpAnyH_take (i := 10) (v := ?_) (atS <| atS <| atS <| atS <| atS <| atS <| atS <| atS <| atS <| atS <| at0) (by kernel_rfl) (by kernel_rfl) (by kernel_rfl) (fun _ _ _ h => h) (Or.inl ⟨by rfl, ?_⟩) (by assumption) ?_
          rotate_left
          · (intro w hSw; (try dsimp only at hSw); go_simp; first | done | with_reducible rfl)
          (try simp only [Act.put, List.setIfInBounds_toArray, List.set_cons_zero, List.set_cons_succ])
          refine wpAnyH_take (i := 11) (v := ?_) (atS <| atS <| atS <| atS <| atS <| atS <| atS <| atS <| atS <| atS <| atS <| at0) (by kernel_rfl) (by kernel_rfl) (by kernel_rfl) (fun _ _ _ h => h) (Or.inl ⟨by rfl, ?_⟩) (by assumption) ?_
          rotate_left
          · (intro w hSw; (try dsimp only at hSw); go_simp; first | done | with_reducible rfl)
          (try simp only [Act.put, List.setIfInBounds_toArray, List.set_cons_zero, List.set_cons_succ])
          refine wpAnyH_take (i := 12) (v := .bool false) (atS <| atS <| atS <| atS <| atS <| atS <| atS <| atS <| atS <| atS <| atS <| atS <| at0) (by kernel_rfl) (by kernel_rfl) (by kernel_rfl) (fun _ _ _ h => h) (Or.inl ⟨by rfl, ?_⟩) (by assumption) ?_
          · (intro w hSw; (try dsimp only at hSw); go_simp; first | done | with_reducible rfl | omega | (simp; done) | (simp; omega) | (simp [*]; done))
          (try simp only [Act.put, List.setIfInBounds_toArray, List.set_cons_zero, List.set_cons_succ])
          refine wpAnyH_take (i := 13) (v := ?_) (atS <| atS <| atS <| atS <| atS <| atS <| atS <| atS <| atS <| atS <| atS <| atS <| atS <| at0) (by kernel_rfl) (by kernel_rfl) (by kernel_rfl) (fun _ _ _ h => h) (Or.inl ⟨by rfl, ?_⟩) (by assumption) ?_
          rotate_left
          · (intro w hSw; (try dsimp only at hSw); go_simp; first | done | with_reducible rfl)
          (try simp only [Act.put, List.setIfInBounds_toArray, List.set_cons_zero, List.set_cons_succ])
          refine wpAnyH_take (i := 14) (v := ?_) (atS <| atS <| atS <| atS <| atS <| atS <| atS <| atS <| atS <| atS <| atS <| atS <| atS <| atS <| at0) (by kernel_rfl) (by kernel_rfl) (by kernel_rfl) (fun _ _ _ h => h) (Or.inl ⟨by rfl, ?_⟩) (by assumption) ?_
          rotate_left
          · (intro w hSw; (try dsimp only at hSw); go_simp; first | done | with_reducible rfl)
          (try simp only [Act.put, List.setIfInBounds_toArray, List.set_cons_zero, List.set_cons_succ])
          refine wpAnyH_take (i := 15) (v := undef) (atS <| atS <| atS <| atS <| atS <| atS <| atS <| atS <| atS <| atS <| atS <| atS <| atS <| atS <| atS <| at0) (by kernel_rfl) (by kernel_rfl) (by kernel_rfl) (fun _ _ _ h => h) (Or.inr ⟨by rfl, rfl⟩) (by assumption) ?_
          (try simp only [Act.put, List.setIfInBounds_toArray, List.set_cons_zero, List.set_cons_succ])
          refine wpAnyH_take (i := 16) (v := undef) (atS <| atS <| atS <| atS <| atS <| atS <| atS <| atS <| atS <| atS <| atS <| atS <| atS <| atS <| atS <| atS <| at0) (by kernel_rfl) (by kernel_rfl) (by kernel_rfl) (fun _ _ _ h => h) (Or.inr ⟨by rfl, rfl⟩) (by assumption) ?_
          (try simp only [Act.put, List.setIfInBounds_toArray, List.set_cons_zero, List.set_cons_succ])
          refine wpAnyH_take (i := 17) (v := undef) (atS <| atS <| atS <| atS <| atS <| atS <| atS <| atS <| atS <| atS <| atS <| atS <| atS <| atS <| atS <| atS <| atS <| at0) (by kernel_rfl) (by kernel_rfl) (by kernel_rfl) (fun _ _ _ h => h) (Or.inr ⟨by rfl, rfl⟩) (by assumption) ?_
          (try simp only [Act.put, List.setIfInBounds_toArray, List.set_cons_zero, List.set_cons_succ])
          refine wpAnyH_take (i := 18) (v := undef) (atS <| atS <| atS <| atS <| atS <| atS <| atS <| atS <| atS <| atS <| atS <| atS <| atS <| atS <| atS <| atS <| atS <| atS <| at0) (by kernel_rfl) (by kernel_rfl) (by kernel_rfl) (fun _ _ _ h => h) (Or.inr ⟨by rfl, rfl⟩) (by assumption) ?_
          (try simp only [Act.put, List.setIfInBounds_toArray, List.set_cons_zero, List.set_cons_succ])
          refine wpAnyH_take (i := 19) (v := undef) (atS <| atS <| atS <| atS <| atS <| atS <| atS <| atS <| atS <| atS <| atS <| atS <| atS <| atS <| atS <| atS <| atS <| atS <| atS <| at0) (by kernel_rfl) (by kernel_rfl) (by kernel_rfl) (fun _ _ _ h => h) (Or.inr ⟨by rfl, rfl⟩) (by assumption) ?_
          (try simp only [Act.put, List.setIfInBounds_toArray, List.set_cons_zero, List.set_cons_succ])
          refine wpAnyH_take (i := 20) (v := undef) (atS <| atS <| atS <| atS <| atS <| atS <| atS <| atS <| atS <| atS <| atS <| atS <| atS <| atS <| atS <| atS <| atS <| atS <| atS <| atS <| at0) (by kernel_rfl) (by kernel_rfl) (by kernel_rfl) (fun _ _ _ h => h) (Or.inr ⟨by rfl, rfl⟩) (by assumption) ?_
          (try simp only [Act.put, List.setIfInBounds_toArray, List.set_cons_zero, List.set_cons_succ])
          refine wpAnyH_take (i := 21) (v := undef) (atS <| atS <| atS <| atS <| atS <| atS <| atS <| atS <| atS <| atS <| atS <| atS <| atS <| atS <| atS <| atS <| atS <| atS <| atS <| atS <| atS <| at0) (by kernel_rfl) (by kernel_rfl) (by kernel_rfl) (fun _ _ _ h => h) (Or.inr ⟨by rfl, rfl⟩) (by assumption) ?_
          (try simp only [Act.put, List.setIfInBounds_toArray, List.set_cons_zero, List.set_cons_succ])
          refine wpAnyH_take (i := 22) (v := undef) (atS <| atS <| atS <| atS <| atS <| atS <| atS <| atS <| atS <| atS <| atS <| atS <| atS <| atS <| atS <| atS <| atS <| atS <| atS <| atS <| atS <| atS <| at0) (by kernel_rfl) (by kernel_rfl) (by kernel_rfl) (fun _ _ _ h => h) (Or.inr ⟨by rfl, rfl⟩) (by assumption) ?_
          (try simp only [Act.put, List.setIfInBounds_toArray, List.set_cons_zero, List.set_cons_succ])
          refine wpAnyH_take (i := 23) (v := ?_) (atS <| atS <| atS <| atS <| atS <| atS <| atS <| atS <| atS <| atS <| atS <| atS <| atS <| atS <| atS <| atS <| atS <| atS <| atS <| atS <| atS <| atS <| atS <| at0) (by kernel_rfl) (by kernel_rfl) (by kernel_rfl) (fun _ _ _ h => h) (Or.inl ⟨by rfl, ?_⟩) (by assumption) ?_
          rotate_left
          · (intro w hSw; (try dsimp only at hSw); go_simp; first | done | with_reducible rfl)
          (try simp only [Act.put, List.setIfInBounds_toArray, List.set_cons_zero, List.set_cons_succ])
          refine wpAnyH_take (i := 24) (v := ?_) (atS <| atS <| atS <| atS <| atS <| atS <| atS <| atS <| atS <| atS <| atS <| atS <| atS <| atS <| atS <| atS <| atS <| atS <| atS <| atS <| atS <| atS <| atS <| atS <| at0) (by kernel_rfl) (by kernel_rfl) (by kernel_rfl) (fun _ _ _ h => h) (Or.inl ⟨by rfl, ?_⟩) (by assumption) ?_
          rotate_left
          · (intro w hSw; (try dsimp only at hSw); go_simp; first | done | with_reducible rfl)
          (try simp only [Act.put, List.setIfInBounds_toArray, List.set_cons_zero, List.set_cons_succ])
          refine wpAnyH_take (i := 25) (v := undef) (atS <| atS <| atS <| atS <| atS <| atS <| atS <| atS <| atS <| atS <| atS <| atS <| atS <| atS <| atS <| atS <| atS <| atS <| atS <| atS <| atS <| atS <| atS <| atS <| atS <| at0) (by kernel_rfl) (by kernel_rfl) (by kernel_rfl) (fun _ _ _ h => h) (Or.inr ⟨by rfl, rfl⟩) (by assumption) ?_
          (try simp only [Act.put, List.setIfInBounds_toArray, List.set_cons_zero, List.set_cons_succ])
          refine wpAnyH_take (i := 26) (v := undef) (atS <| atS <| atS <| atS <| atS <| atS <| atS <| atS <| atS <| atS <| atS <| atS <| atS <| atS <| atS <| atS <| atS <| atS <| atS <| atS <| atS <| atS <| atS <| atS <| atS <| atS <| at0) (by kernel_rfl) (by kernel_rfl) (by kernel_rfl) (fun _ _ _ h => h) (Or.inr ⟨by rfl, rfl⟩) (by assumption) ?_
          (try simp only [Act.put, List.setIfInBounds_toArray, List.set_cons_zero, List.set_cons_succ])
          refine wpAnyH_take (i := 27) (v := undef) (atS <| atS <| atS <| atS <| atS <| atS <| atS <| atS <| atS <| atS <| atS <| atS <| atS <| atS <| atS <| atS <| atS <| atS <| atS <| atS <| atS <| atS <| atS <| atS <| atS <| atS <| atS <| at0) (by kernel_rfl) (by kernel_rfl) (by kernel_rfl) (fun _ _ _ h => h) (Or.inr ⟨by rfl, rfl⟩) (by assumption) ?_
          (try simp only [Act.put, List.setIfInBounds_toArray, List.set_cons_zero, List.set_cons_succ])
          refine wpAnyH_take (i := 28) (v := undef) (atS <| atS <| atS <| atS <| atS <| atS <| atS <| atS <| atS <| atS <| atS <| atS <| atS <| atS <| atS <| atS <| atS <| atS <| atS <| atS <| atS <| atS <| atS <| atS <| atS <| atS <| atS <| atS <| at0) (by kernel_rfl) (by kernel_rfl) (by kernel_rfl) (fun _ _ _ h => h) (Or.inr ⟨by rfl, rfl⟩) (by assumption) ?_
          (try simp only [Act.put, List.setIfInBounds_toArray, List.set_cons_zero, List.set_cons_succ])
          refine wpAnyH_take (i := 29) (v := undef) (atS <| atS <| atS <| atS <| atS <| atS <| atS <| atS <| atS <| atS <| atS <| atS <| atS <| atS <| atS <| atS <| atS <| atS <| atS <| atS <| atS <| atS <| atS <| atS <| atS <| atS <| atS <| atS <| atS <| at0) (by kernel_rfl) (by kernel_rfl) (by kernel_rfl) (fun _ _ _ h => h) (Or.inr ⟨by rfl, rfl⟩) (by assumption) ?_
          (try simp only [Act.put, List.setIfInBounds_toArray, List.set_cons_zero, List.set_cons_succ])
          refine wpAnyH_take (i := 30) (v := undef) (atS <| atS <| atS <| atS <| atS <| atS <| atS <| atS <| atS <| atS <| atS <| atS <| atS <| atS <| atS <| atS <| atS <| atS <| atS <| atS <| atS <| atS <| atS <| atS <| atS <| atS <| atS <| atS <| atS <| atS <| at0) (by kernel_rfl) (by kernel_rfl) (by kernel_rfl) (fun _ _ _ h => h) (Or.inr ⟨by rfl, rfl⟩) (by assumption) ?_
          (try simp only [Act.put, List.setIfInBounds_toArray, List.set_cons_zero, List.set_cons_succ])
          refine wpAnyH_take (i := 31) (v := undef) (atS <| atS <| atS <| atS <| atS <| atS <| atS <| atS <| atS <| atS <| atS <| atS <| atS <| atS <| atS <| atS <| atS <| atS <| atS <| atS <| atS <| atS <| atS <| atS <| atS <| atS <| atS <| atS <| atS <| atS <| atS <| at0) (by kernel_rfl) (by kernel_rfl) (by kernel_rfl) (fun _ _ _ h => h) (Or.inr ⟨by rfl, rfl⟩) (by assumption) ?_
          (try simp only [Act.put, List.setIfInBounds_toArray, List.set_cons_zero, List.set_cons_succ])
          refine wpAnyH_take (i := 32) (v := undef) (atS <| atS <| atS <| atS <| atS <| atS <| atS <| atS <| atS <| atS <| atS <| atS <| atS <| atS <| atS <| atS <| atS <| atS <| atS <| atS <| atS <| atS <| atS <| atS <| atS <| atS <| atS <| atS <| atS <| atS <| atS <| atS <| at0) (by kernel_rfl) (by kernel_rfl) (by kernel_rfl) (fun _ _ _ h => h) (Or.inr ⟨by rfl, rfl⟩) (by assumption) ?_
          (try simp only [Act.put, List.setIfInBounds_toArray, List.set_cons_zero, List.set_cons_succ])
          refine wpAnyH_take (i := 33) (v := ?_) (atS <| atS <| atS <| atS <| atS <| atS <| atS <| atS <| atS <| atS <| atS <| atS <| atS <| atS <| atS <| atS <| atS <| atS <| atS <| atS <| atS <| atS <| atS <| atS <| atS <| atS <| atS <| atS <| atS <| atS <| atS <| atS <| atS <| at0) (by kernel_rfl) (by kernel_rfl) (by kernel_rfl) (fun _ _ _ h => h) (Or.inl ⟨by rfl, ?_⟩) (by assumption) ?_
          rotate_left
          · (intro w hSw; (try dsimp only at hSw); go_simp; first | done | with_reducible rfl)
          (try simp only [Act.put, List.setIfInBounds_toArray, List.set_cons_zero, List.set_cons_succ])
          refine wpAnyH_done (by kernel_rfl) ?_ _
          go_wp2_with fail
          go_roundw
          case rel => exact ⟨n + 1, by omega, by rw [HE.out, HDR.out]; simp [Qr.opensF, Qr.sameK, Qr.St.key, h0], by go_num, hbr.drew⟩
          case measure => simp [intOf]; omega
    · have hnl : n = L.length := by omega
      subst hnl
      have hz : z = -1 := HF.out.none (by rw [HE.out, List.drop_length]; rfl)
      subst hz
      go_wp2_with fail
      go_ret
      exact ⟨rfl, h0w.trans (hbr.mono h0w.size)⟩
end Go.Proofs.Ytojadmccenkffaa
