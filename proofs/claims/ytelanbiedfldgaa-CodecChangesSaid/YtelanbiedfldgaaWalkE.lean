/- The walk of encoded. -/
import Derived.Test.YtelanbiedfldgaaWalkD
namespace Go.Proofs.Ytelanbiedfldgaa
open Go.RowKit

def bcells (l : List Nat) : List Value := l.map fun (x : Nat) => Value.int .u8 (x : Int)
def rowOf (pre : List Nat) : List Value := bcells pre ++ List.replicate (10 - pre.length) (Value.int .u8 0)
theorem rowOf_len {pre : List Nat} (h : pre.length ≤ 10) : (rowOf pre).length = 10 := by simp [rowOf, bcells]; omega
theorem rowOf_set {pre : List Nat} (h : pre.length < 10) (x : Nat) : (rowOf pre).set pre.length (.int .u8 (x : Int)) = rowOf (pre ++ [x]) := by
  unfold rowOf bcells
  obtain ⟨m, hm⟩ : ∃ m, 10 - pre.length = m + 1 := ⟨9 - pre.length, by omega⟩
  rw [hm, List.set_append_right _ _ (by simp), show 10 - (pre ++ [x]).length = m by simp; omega]
  simp [List.replicate_succ]
theorem rowOf_get {pre : List Nat} {k : Nat} (h : k < pre.length) : (rowOf pre)[k]? = some (.int .u8 ((pre.getD k 0 : Nat) : Int)) := by
  unfold rowOf bcells
  rw [List.getElem?_append_left (by simpa using h)]
  simp [List.getD_eq_getElem?_getD, h]
theorem or_128 (u : Nat) : bits .or .u8 ((u : Int) % 256) 128 = ((u % 128 + 128 : Nat) : Int) := by
  have e1 : (u : Int) % 256 = ((u % 256 : Nat) : Int) := by omega
  rw [e1]
  have := u8_or_nat (u % 256) 128 (by omega) (by decide)
  have h2 := Lib.or128_nat ⟨u % 256, by omega⟩
  simp only at h2
  rw [h2] at this
  refine this.trans ?_
  omega
def EncPost (w : World) (L : List Nat) (e : Ending) (w' : World) : Prop :=
  ∃ g, e = .returned (.slice (some ⟨g, 0, none⟩) L.length L.length) ∧ w.heap.size ≤ g ∧ g < w'.heap.size ∧ (∀ k, k < L.length → w'.cell? ⟨g, k, none⟩ = some (.int .u8 (L.getD k 0 : Nat))) ∧ Below w.heap.size w w'
theorem enc_stop {f u : Nat} (h : u < 128) : Cd.encF f u = [u] := by
  cases f with
  | zero => rw [Cd.encF, Nat.mod_eq_of_lt (by omega)]
  | succ f => rw [Cd.encF, if_pos h]
theorem enc_go {f u : Nat} (h : 128 ≤ u) : Cd.encF (f + 1) u = (u % 128 + 128) :: Cd.encF f (u / 128) := by rw [Cd.encF, if_neg (by omega)]

theorem Try.len53 : Try.prog.arrayLen 53 = 10 := by kernel_rfl
theorem Try.size5 : (Try.prog.info? 5).map (fun i => (i.zero, i.size, i.bytes)) = some (some (.int .u8 0), 1, 1) := by kernel_rfl
theorem Try.und53 : Try.prog.underlying 53 = some (.array (Try.prog.arrayLen 53) (Try.prog.elem 53)) := by kernel_rfl
theorem slice53 (b k : Nat) (hk : k ≤ 9) (W : World) : (Instr.sliceAt 53 (.pointer (some ⟨b, 0, none⟩)) none (some (.int .i64 ((k : Int) + 1))) (some (.int .i64 ((k : Int) + 1)))).run Try.prog W = .ok (.slice (some ⟨b, 0, none⟩) (k + 1) (k + 1)) W := by
  rw [run_sliceAt_array_hm W 53 ⟨b, 0, none⟩ Try.und53 .i64 .i64 _ _ (by omega) (Int.le_refl _) (by rw [Try.len53]; omega)]
  have e : (sizeOf (Try.prog.elem 53)).run Try.prog W = .ok 1 W := by kernel_rfl
  rw [e]
  simp [Result.andThen, slicedAt, Addr.add]
set_option maxRecDepth 100000 in
set_option maxHeartbeats 1000000 in
theorem encoded_any (n : Int) (h1 : -9223372036854775808 ≤ n) (h2 : n ≤ 9223372036854775807) (w : World) :
    Calls Try.prog 29 #[.int .i64 n] w (EncPost w (Cd.enc (Cd.num n))) := by
  have hlt := Cd.num_lt h1 h2
  go_enter Try.func29, Try.ntmps29
  go_wp2_with fail
  refine (zigzag_any n h1 h2 _).mono ?_
  rintro e w1 ⟨rfl, hb1⟩
  have hrow0 := World.ownsRow_lit (base := w.heap.size) (e := 53) (size := 1) w (List.replicate 10 (Value.int .u8 0)).toArray 10 (Nat.le_refl _) (by decide) (by simp)
  have hrow := World.ownsRow.kept hrow0 (row := none) ⟨hb1.os, hb1.tape, hb1.output, hb1.size, fun i hi _ => hb1.block i hi⟩ (.inr (by simp [Value.ownBlock]))
  have hb0 : Below w.heap.size w w1 := ((Below.refl _ _).alloc (Nat.le_refl _) _).trans (hb1.mono (by simp))
  have HROW := Lib.hid hrow
  clear hrow0 hrow hb1
  obtain ⟨N, hN⟩ : ∃ N, N = Cd.num n := ⟨_, rfl⟩
  rw [← hN] at hlt ⊢
  have HNN := Lib.hid hN
  clear hN
  go_wp2_with fail
  go_loopw [4, 5] (fun x i wr => ∃ (k u f : Nat) (pre : List Nat), i = .int .i64 k ∧ x = .int .u64 u ∧ pre.length = k ∧ f + k = 9 ∧ u * 128 ^ k < 18446744073709551616 ∧ Cd.enc N = pre ++ Cd.encF f u ∧
      wr.ownsRow w.heap.size 53 1 (.slice (some ⟨w.heap.size, 0, none⟩) 10 10) 10 (rowOf pre) ∧ Below w.heap.size w wr) (fun _ i _ => 10 - (intOf i).toNat)
  case atStart => exact ⟨0, N, 9, [], rfl, rfl, rfl, rfl, by simpa using hlt, rfl, by have := HROW.out; simpa [rowOf, bcells] using this, hb0⟩
  case round =>
    clear HROW hb0
    obtain ⟨k, u, f, pre, rfl, rfl, hpl, hf, hu, hE, hrow, hbel⟩ := hrel
    have hk9 : k ≤ 9 := by omega
    have hk10 : (k : Int) < 10 := by omega
    have hcell : ∃ v, wr.cell? ⟨w.heap.size, k, none⟩ = some v := by
      have := World.ownsRow.cellAt hrow k (by omega)
      rw [this, List.getElem?_eq_getElem (by rw [rowOf_len (by omega)]; omega)]
      exact ⟨_, rfl⟩
    obtain ⟨cv, hcv⟩ := hcell
    have hff := World.ownsRow.frozenAt hrow k
    have hk1 : IntKind.i64.wrap ((k : Int) + 1) = (k : Int) + 1 := IntWalk.i64_in _ ⟨by omega, by omega⟩
    have hul : u < 18446744073709551616 := by
      have : u * 1 ≤ u * 128 ^ k := Nat.mul_le_mul_left _ (Nat.pow_pos (by decide))
      omega
    have HU := Lib.hid hu
    have HE := Lib.hid hE
    have HP := Lib.hid hpl
    clear hu hE hpl
    by_cases h128 : 128 ≤ u
    · have hk8 : f ≠ 0 := fun h => by
        have : k = 9 := by omega
        subst this
        have := HU.out
        have e9 : (128 : Nat) ^ 9 = 9223372036854775808 := by decide
        rw [e9] at this
        omega
      obtain ⟨f', rfl⟩ := Nat.exists_eq_succ_of_ne_zero hk8
      have hst := World.ownsRow.stored hrow k (.int .u8 ((u % 128 + 128 : Nat) : Int))
      have hset := rowOf_set (pre := pre) (by rw [HP.out]; omega) (u % 128 + 128)
      rw [HP.out] at hset
      rw [hset] at hst
      have HR := Lib.hid hst.1
      have HB := Lib.hid (hbel.setCell (p := ⟨w.heap.size, k, none⟩) (Nat.le_refl _) (.int .u8 ((u % 128 + 128 : Nat) : Int)))
      have e1 := or_128 u
      have HEN := Lib.hid (show Cd.enc N = (pre ++ [u % 128 + 128]) ++ Cd.encF f' (u / 128) by rw [HE.out, enc_go h128]; simp)
      have HUN := Lib.hid (show u / 128 * 128 ^ (k + 1) < 18446744073709551616 by
        have h3 := HU.out
        have h4 : u / 128 * 128 * 128 ^ k ≤ u * 128 ^ k := Nat.mul_le_mul_right _ (by omega)
        rw [Nat.pow_succ, Nat.mul_comm (128 ^ k) 128, ← Nat.mul_assoc]
        omega)
      obtain ⟨y, hy⟩ : ∃ y, y = u % 128 + 128 := ⟨_, rfl⟩
      rw [← hy] at e1 HR HB HEN
      clear hst hset hrow hbel hy
      go_wp2_with fail
      go_roundw
      case rel => exact ⟨k + 1, u / 128, f', pre ++ [y], by go_num, by go_num, by simp [HP.out], by omega, HUN.out, HEN.out, HR.out, HB.out⟩
      case measure => simp [intOf]; omega
    · have hst := World.ownsRow.stored hrow k (.int .u8 (u : Int))
      have hset := rowOf_set (pre := pre) (by rw [HP.out]; omega) u
      rw [HP.out] at hset
      rw [hset] at hst
      have HR := Lib.hid hst.1
      have HB := Lib.hid (hbel.setCell (p := ⟨w.heap.size, k, none⟩) (Nat.le_refl _) (.int .u8 (u : Int)))
      have HEN := Lib.hid (show Cd.enc N = pre ++ [u] by rw [HE.out, enc_stop (by omega)])
      have hw8 : w.heap.size < wr.heap.size := (World.ownsRow.lt hrow _ rfl).2
      have hsl := slice53 w.heap.size k hk9
      clear hst hset hrow hbel
      go_wp2_with fail
      go_ret
      show EncPost w (Cd.enc (Cd.num n)) _ _
      rw [← HNN.out]
      have hlen : (Cd.enc N).length = k + 1 := by rw [HEN.out]; simp [HP.out]
      refine ⟨w.heap.size, by rw [hlen]; rfl, Nat.le_refl _, by simpa using hw8, fun j hj => ?_, HB.out⟩
      rw [HEN.out] at hj ⊢
      rw [World.ownsRow.cellAt HR.out j (by simp [HP.out] at hj; omega), rowOf_get hj]
end Go.Proofs.Ytelanbiedfldgaa
