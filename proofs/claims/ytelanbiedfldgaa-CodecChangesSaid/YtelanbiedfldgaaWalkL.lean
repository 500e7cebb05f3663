/- The walks of SameInts, few and awake. -/
import Derived.Test.YtelanbiedfldgaaWalkK
import Derived.BigQuiet
import Derived.Deep.QuietTactic
import Derived.Lib.SlBytesConst
import Derived.Lib.ConvBytes
namespace Go.Proofs.Ytelanbiedfldgaa
open Go.RowKit

def SamePost (w : World) (r : Bool) (e : Ending) (w' : World) : Prop := e = .returned (.bool r) ∧ Below w.heap.size w w'
theorem below_drewN' {B : Nat} {a w : World} (h : Below B a w) (n : Nat) : Below B a (w.drewN n) := ⟨h.os, h.tape, h.output, h.size, h.block⟩

theorem take_eq_succ {a b : List Int} {k : Nat} (h : a.take k = b.take k) (ha : k < a.length) (hb : k < b.length) (he : a.getD k 0 = b.getD k 0) : a.take (k + 1) = b.take (k + 1) := by
  rw [List.take_succ_eq_append_getElem ha, List.take_succ_eq_append_getElem hb, h]
  simp only [List.getD_eq_getElem?_getD, List.getElem?_eq_getElem ha, List.getElem?_eq_getElem hb, Option.getD_some] at he
  rw [he]

set_option maxHeartbeats 1000000 in
theorem same_any (A1 A2 : Option Addr) (c1 c2 : Nat) (a b : List Int) (w : World) (ha : Ints w w.heap.size A1 a) (hb : Ints w w.heap.size A2 b) (hl : a.length ≤ 4611686018427387904) :
    Calls Try.prog 21 #[.slice A1 a.length c1, .slice A2 b.length c2] w (SamePost w (a == b)) := by
  by_cases hlen : a.length = b.length
  · have hne : ((a.length : Int) != (b.length : Int)) = false := by simp [hlen]
    have HL := Lib.hid hlen
    clear hlen
    go_enter Try.func21, Try.ntmps21
    go_wp2_with fail
    go_loopw [5] (fun i wr => ∃ k : Nat, k ≤ a.length ∧ i = .int .i64 k ∧ a.take k = b.take k ∧ Below w.heap.size w wr) (fun i _ => a.length - (intOf i).toNat)
    case atStart => exact ⟨0, Nat.zero_le _, rfl, rfl, Below.refl _ _⟩
    case round =>
      obtain ⟨k, hk, rfl, htake, hbel⟩ := hrel
      have HT := Lib.hid htake
      clear htake
      by_cases hlt : k < a.length
      · obtain ⟨b1, o1, rfl, hb1, hc1⟩ := ha (by omega)
        obtain ⟨b2, o2, rfl, hb2, hc2⟩ := hb (by have := HL.out; omega)
        have hlt2 : k < b.length := by have := HL.out; omega
        have hcell1 := (hbel.cell (p := ⟨b1, o1 + k, none⟩) hb1).trans (hc1 k hlt)
        have hcell2 := (hbel.cell (p := ⟨b2, o2 + k, none⟩) hb2).trans (hc2 k hlt2)
        obtain ⟨x, hx⟩ : ∃ x, x = a.getD k 0 := ⟨_, rfl⟩
        obtain ⟨y, hy⟩ : ∃ y, y = b.getD k 0 := ⟨_, rfl⟩
        rw [← hx] at hcell1
        rw [← hy] at hcell2
        have HX := Lib.hid hx
        have HY := Lib.hid hy
        clear hx hy hc1 hc2
        have hkl : (k : Int) < (a.length : Int) := by omega
        have hkl2 : (k : Int) < (b.length : Int) := by omega
        by_cases hxy : x = y
        · have hq : (x != y) = false := by simp [hxy]
          have HE := Lib.hid hxy
          clear hxy
          go_wp2_with fail
          go_quiet (fail)
          go_wp2_with fail
          go_roundw
          case rel => exact ⟨k + 1, by omega, by go_num, take_eq_succ HT.out hlt hlt2 (by rw [← HX.out, ← HY.out, HE.out]), below_drewN' hbel _⟩
          case measure => simp [intOf]; omega
        · have hq : (x != y) = true := by simp [hxy]
          go_wp2_with fail
          go_quiet (fail)
          go_wp2_with fail
          go_ret
          refine ⟨ret_bool ?_, below_drewN' hbel _⟩
          have : a ≠ b := fun e => hxy (by rw [HX.out, HY.out, e])
          simp [this]
      · obtain rfl : k = a.length := by omega
        go_wp2_with fail
        go_ret
        refine ⟨ret_bool ?_, hbel⟩
        have := HT.out
        rw [List.take_length, HL.out, List.take_length] at this
        simp [this]
  · have hne : ((a.length : Int) != (b.length : Int)) = true := by simp; omega
    go_enter Try.func21, Try.ntmps21
    go_wp2_with fail
    go_ret
    refine ⟨ret_bool ?_, Below.refl _ _⟩
    have : a ≠ b := fun e => hlen (by rw [e])
    simp [this]

theorem same_is (A1 A2 : Option Addr) (c1 c2 : Nat) (a b : List Int) (n m : Nat) (r : Bool) (w : World) (ha : Ints w w.heap.size A1 a) (hb : Ints w w.heap.size A2 b) (hn : a.length = n) (hm : b.length = m) (hl : n ≤ 1000000) (hr : (a == b) = r) :
    Calls Try.prog 21 #[.slice A1 n c1, .slice A2 m c2] w (SamePost w r) := by
  subst hr; subst hn; subst hm
  exact same_any A1 A2 c1 c2 a b w ha hb (by omega)
set_option maxHeartbeats 400000 in
theorem few_any (A1 A2 : Option Addr) (n1 c1 n2 c2 : Nat) (s : ByteArray) (w : World) :
    Calls Try.prog 10 #[.slice A1 n1 c1, .string s, .slice A2 n2 c2] w (SamePost w (decide (n1 ≤ 300) && (decide (s.size ≤ 300) && decide (n2 ≤ 300)))) := by
  by_cases h1 : n1 ≤ 300
  · by_cases h2 : s.size ≤ 300
    · by_cases h3 : n2 ≤ 300
      · go_enter Try.func10, Try.ntmps10
        go_wp2_with fail
        go_ret
        exact ⟨ret_bool (by simp [h1, h2, h3] <;> omega), Below.refl _ _⟩
      · go_enter Try.func10, Try.ntmps10
        go_wp2_with fail
        go_ret
        exact ⟨ret_bool (by simp [h1, h2, h3] <;> omega), Below.refl _ _⟩
    · go_enter Try.func10, Try.ntmps10
      go_wp2_with fail
      go_ret
      exact ⟨ret_bool (by simp ), Below.refl _ _⟩
  · go_enter Try.func10, Try.ntmps10
    go_wp2_with fail
    go_ret
    exact ⟨ret_bool (by simp ), Below.refl _ _⟩

/-! ### The contracts, at what is known -/
theorem byts_lit (l : List Nat) (cs : Array Value) (b : Nat) (w : World) (hb : b = w.heap.size) (hcs : (bcells l).toArray = cs) : Byts (w.alloc (.cells cs 5)) (w.alloc (.cells cs 5)).heap.size (some ⟨b, 0, none⟩) l := fun _ => by
  subst hb; subst hcs
  refine ⟨w.heap.size, 0, rfl, by simp, fun k hk => ?_⟩
  have e1 : (w.alloc (.cells (bcells l).toArray 5)).cell? ⟨w.heap.size, 0 + k, none⟩ = (bcells l).toArray[0 + k]? := World.cell?_alloc_at _ 5 w.heap.size (0 + k) rfl
  rw [e1, Nat.zero_add, List.getElem?_toArray, bcells_get hk]
theorem ints_lit (l : List Int) (cs : Array Value) (b : Nat) (w : World) (hb : b = w.heap.size) (hcs : (l.map (Value.int .i64)).toArray = cs) : Ints (w.alloc (.cells cs 3)) (w.alloc (.cells cs 3)).heap.size (some ⟨b, 0, none⟩) l := fun _ => by
  subst hb; subst hcs
  refine ⟨w.heap.size, 0, rfl, by simp, fun k hk => ?_⟩
  have e1 : (w.alloc (.cells (l.map (Value.int .i64)).toArray 3)).cell? ⟨w.heap.size, 0 + k, none⟩ = (l.map (Value.int .i64)).toArray[0 + k]? := World.cell?_alloc_at _ 3 w.heap.size (0 + k) rfl
  rw [e1, Nat.zero_add, List.getElem?_toArray]
  simp [List.getD_eq_getElem?_getD, hk]
theorem text_at (A : Option Addr) (cap n : Nat) (bs : List Nat) (limit : Int) (s : ByteArray) (v e : Int) (w : World) (hb : Byts w w.heap.size A bs) (hB : Cd.Byt bs) (hn : bs.length = n) (hl : n ≤ 1000000) (hcap : n ≤ cap) (hr : strOf (Cd.textL bs limit).1 = s) (hv : (Cd.textL bs limit).2.1 = v) (he : (Cd.textL bs limit).2.2 = e) :
    Calls Try.prog 14 #[.slice A n cap, .int .i64 limit] w fun e' w' => e' = .returned (.tuple #[.string s, .int .i64 v, .int .i64 e]) ∧ Below w.heap.size w w' := by
  subst hn; subst hr; subst hv; subst he; exact text_any A cap bs limit w hb hB hl hcap
theorem ints_at (A : Option Addr) (cap n : Nat) (bs : List Nat) (limit : Int) (r : List Int × Int × Int) (w : World) (hb : Byts w w.heap.size A bs) (hB : Cd.Byt bs) (hn : bs.length = n) (hl : n ≤ 1000000) (hcap : n ≤ cap) (hr : Cd.intsL bs limit = r) :
    Calls Try.prog 16 #[.slice A n cap, .int .i64 limit] w (IntsPost w r) := by
  subst hn; subst hr; exact ints_any A cap bs limit w hb hB hl hcap
theorem sum_at (A : Option Addr) (cap n : Nat) (bs : List Nat) (r : Nat) (w : World) (hb : Byts w w.heap.size A bs) (hB : Cd.Byt bs) (hn : bs.length = n) (hl : n ≤ 1000000) (hr : Cd.sum bs = r) :
    Calls Try.prog 22 #[.slice A n cap] w (SumPost w r) := by
  subst hn; subst hr; exact sum_any A cap bs w hb hB (by omega)
theorem putInt_at (A : Option Addr) (c m : Nat) (l : List Nat) (n : Int) (L : List Nat) (h1 : -9223372036854775808 ≤ n) (h2 : n ≤ 9223372036854775807) (w : World) (hb : Byts w w.heap.size A l) (hm : l.length = m) (hl : m ≤ 900000) (hL : l ++ Cd.enc (Cd.num n) = L) :
    Calls Try.prog 13 #[.slice A m c, .int .i64 n] w (JoinPost w L) := by
  subst hm; subst hL; exact putInt_any A c l n h1 h2 w hb hl
theorem putInts_at (A : Option Addr) (c m : Nat) (b : List Nat) (A1 : Option Addr) (c1 n : Nat) (l : List Int) (L : List Nat) (w : World) (hb : Byts w w.heap.size A b) (hi : Ints w w.heap.size A1 l) (h64 : I64 l) (hm : b.length = m) (hn : l.length = n) (hbl : m ≤ 900000) (hl : n ≤ 1000) (hL : b ++ (Cd.enc (Cd.num l.length) ++ encs l) = L) :
    Calls Try.prog 17 #[.slice A m c, .slice A1 n c1] w (JoinPost w L) := by
  subst hm; subst hn; subst hL; exact putInts_any A c b A1 c1 l w hb hi h64 hbl hl
theorem wpList_convs {w : World} {ops : Array Oper} {rest : List Oper} {o : Oper} {a : Act} {Q : Exit → Act → World → Prop} (hw : Region.wanted o (yielded ops a.tmps) = true) (x : Operand) (ho : o.op = .convert 22 9 x)
    (A : Option Addr) (n c : Nat) (l : List Nat) (s : ByteArray) (hn : l.length = n) (hs : strOf l = s) (hx : a.eval x = .slice A n c) (hb : Byts w w.heap.size A l) (hA : A = none → l = [])
    (h : wpList Try.prog ops Q rest (a.put o.dst (.string s)) w) : wpList Try.prog ops Q (o :: rest) a w := by
  subst hs; exact wpList_conv hw x ho A n c l hn hx hb hA h

theorem byts_mark (l : List Nat) (cs : Array Value) (fz : Nat × Nat) (b : Nat) (w : World) (hb : b = w.heap.size) (hcs : (bcells l).toArray = cs) : Byts (w.alloc (.cells cs 5 fz)) (w.alloc (.cells cs 5 fz)).heap.size (some ⟨b, 0, none⟩) l := fun _ => by
  subst hb; subst hcs
  refine ⟨w.heap.size, 0, rfl, by simp, fun k hk => ?_⟩
  have h1 : (w.alloc (.cells (bcells l).toArray 5 fz)).heap[w.heap.size]? = some (.cells (bcells l).toArray 5 fz) := by
    show (w.heap.push _)[w.heap.size]? = _
    simp
  unfold World.cell?
  rw [h1]
  simp only [Nat.zero_add]
  rw [List.getElem?_toArray, bcells_get hk]
  rfl
set_option maxRecDepth 100000 in
set_option maxHeartbeats 2000000 in
theorem awake_any (w : World) : Calls Try.prog 11 #[] w fun e w' => e = .returned (.bool true) ∧ Below w.heap.size w w' := by
  go_enter Try.func11, Try.ntmps11
  go_wp2_with fail
  refine (int_at _ _ _ [216, 4, 9] (300, 2, 0) _ (byts_lit _ _ _ _ rfl rfl) (by unfold Cd.Byt; decide) rfl (by decide) (by decide +kernel)).mono ?_
  rintro e w1 ⟨rfl, hb1⟩
  have h1 : Below w.heap.size w w1 := ((Below.refl _ _).alloc (Nat.le_refl _) _).trans (hb1.mono (by simp))
  clear hb1
  go_wp2_with fail
  refine (text_at _ _ _ [4, 97, 98, 7] 2 ⟨#[97, 98]⟩ 3 0 _ (byts_lit _ _ _ _ rfl rfl) (by unfold Cd.Byt; decide) rfl (by decide) (by decide) (by decide +kernel) (by decide +kernel) (by decide +kernel)).mono ?_
  rintro e w2 ⟨rfl, hb2⟩
  have h2 : Below w.heap.size w w2 := (h1.alloc h1.size _).trans (hb2.mono (by have := h1.size; simp; omega))
  clear hb2 h1
  go_wp2_with fail
  refine (ints_at _ _ _ [4, 216, 4, 1] 2 ([300, -1], 4, 0) _ (byts_lit _ _ _ _ rfl rfl) (by unfold Cd.Byt; decide) rfl (by decide) (by decide) (by decide +kernel)).mono ?_
  rintro e w3 ⟨A3, cap3, rfl, ho3, hb3⟩
  have h3 : Below w.heap.size w w3 := (h2.alloc h2.size _).trans (hb3.mono (by have := h2.size; simp; omega))
  have hi3 : Ints w3 w3.heap.size A3 [300, -1] := ho3.ints
  clear hb3 h2 ho3
  go_wp2_with fail
  refine (ints_at _ _ _ [4, 216, 4] 2 ([], 0, 7) _ (byts_lit _ _ _ _ rfl rfl) (by unfold Cd.Byt; decide) rfl (by decide) (by decide) (by decide +kernel)).mono ?_
  rintro e w4 ⟨A4, cap4, rfl, ho4, hb4⟩
  have h4 : Below w.heap.size w w4 := (h3.alloc h3.size _).trans (hb4.mono (by have := h3.size; simp; omega))
  have hi4 : Ints w4 w4.heap.size A3 [300, -1] := (hi3.below (((Below.refl _ _).alloc (Nat.le_refl _) _).trans (hb4.mono (by simp)))).more (by have := hb4.size; simp at this; omega)
  clear hb4 h3 ho4 hi3
  go_wp2_with fail
  refine (putInt_at none 0 0 [] 300 [216, 4] (by decide) (by decide) _ (Byts.nil _ _ _) rfl (by decide) (by decide +kernel)).mono ?_
  rintro e w5 ⟨g5, rfl, ho5, hb5⟩
  have h5 : Below w.heap.size w w5 := h4.trans (hb5.mono h4.size)
  have hi5 : Ints w5 w5.heap.size A3 [300, -1] := (hi4.below hb5).more hb5.size
  clear hb5 h4 hi4
  go_wp2_with ((with_reducible refine at_op (d := some 38) (op := .convert 22 9 (.tmp 37)) ?_); refine wpList_convs rfl (.tmp 37) rfl _ _ _ [216, 4] ⟨#[216, 4]⟩ rfl (by decide +kernel) rfl ho5.byts (by intro e; cases e) ?_)
  refine (putInts_at none 0 0 [] _ _ _ [300, -1] [4, 216, 4, 1] _ (Byts.nil _ _ _) (ints_lit _ _ _ _ rfl rfl) (by unfold I64; decide) rfl rfl (by decide) (by decide) (by decide +kernel)).mono ?_
  rintro e w6 ⟨g6, rfl, ho6, hb6⟩
  have h6 : Below w.heap.size w w6 := (h5.alloc h5.size _).trans (hb6.mono (by have := h5.size; simp; omega))
  have hi6 : Ints w6 w6.heap.size A3 [300, -1] := (hi5.below (((Below.refl _ _).alloc (Nat.le_refl _) _).trans (hb6.mono (by simp)))).more (by have := hb6.size; simp at this; omega)
  clear hb6 h5 hi5 ho5
  go_wp2_with ((with_reducible refine at_op (d := some 43) (op := .convert 22 9 (.tmp 42)) ?_); refine wpList_convs rfl (.tmp 42) rfl _ _ _ [4, 216, 4, 1] ⟨#[4, 216, 4, 1]⟩ rfl (by decide +kernel) rfl ho6.byts (by intro e; cases e) ?_)
  refine (same_is _ _ _ _ [300, -1] [300, -1] _ _ true _ ((hi6.below ((Below.refl _ _).alloc (Nat.le_refl _) _)).more (by simp)) (ints_lit _ _ _ _ rfl rfl) rfl rfl (by decide) (by decide)).mono ?_
  rintro e w7 ⟨rfl, hb7⟩
  have h7 : Below w.heap.size w w7 := (h6.alloc h6.size _).trans (hb7.mono (by have := h6.size; simp; omega))
  clear hb7 h6 hi6 ho6
  have hcs := Lib.run_convert_bytes_const w7 22 5 #[.int .u8 49, .int .u8 50, .int .u8 51, .int .u8 52, .int .u8 53, .int .u8 54, .int .u8 55, .int .u8 56, .int .u8 57] 9 9 Try.underlying22 Try.underlying5
  go_wp2_with fail
  refine (sum_at _ _ _ [49, 50, 51, 52, 53, 54, 55, 56, 57] 3808858755 _ (byts_mark _ _ _ _ _ rfl rfl) (by unfold Cd.Byt; decide) rfl (by decide) (by decide +kernel)).mono ?_
  rintro e w8 ⟨rfl, hb8⟩
  have h8 : Below w.heap.size w w8 := (h7.alloc h7.size _).trans (hb8.mono (by have := h7.size; simp; omega))
  go_wp2_with fail
  go_ret
  exact ⟨rfl, h8⟩
end Go.Proofs.Ytelanbiedfldgaa
