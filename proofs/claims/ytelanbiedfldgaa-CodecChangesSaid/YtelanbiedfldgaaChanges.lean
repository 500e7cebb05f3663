/- The walk of the statement CodecChanges. -/
import Derived.Test.YtelanbiedfldgaaBack
import Derived.Test.YtelanbiedfldgaaPlainF
import Derived.Test.YtelanbiedfldgaaHeld
namespace Go.Proofs.Ytelanbiedfldgaa
open Go.RowKit

theorem OwnY.store {w : World} {B g cap : Nat} {l : List Nat} (h : OwnY w B (some ⟨g, 0, none⟩) cap l) (j y : Nat) : OwnY (w.setCell ⟨g, j, none⟩ (.int .u8 (y : Int))) B (some ⟨g, 0, none⟩) cap (l.set j y) ∧ w.grownBy (w.setCell ⟨g, j, none⟩ (.int .u8 (y : Int))) (some g) := by
  have h2 := World.ownsRow.stored h j (.int .u8 (y : Int))
  refine ⟨?_, h2.2⟩
  have e : (bcells l).set j (.int .u8 (y : Int)) = bcells (l.set j y) := by
    unfold bcells
    rw [List.map_set]
  rw [e] at h2
  unfold OwnY
  rw [List.length_set]
  exact h2.1
theorem OwnY.keep {w w' : World} {B g cap g' : Nat} {l : List Nat} (h : OwnY w B (some ⟨g, 0, none⟩) cap l) (hg : w.grownBy w' (some g')) (hne : g ≠ g') : OwnY w' B (some ⟨g, 0, none⟩) cap l :=
  World.ownsRow.kept h hg (.inr (by simpa [Value.ownBlock] using hne))
theorem OwnY.cellSome {w : World} {B g cap : Nat} {l : List Nat} (h : OwnY w B (some ⟨g, 0, none⟩) cap l) (j : Nat) (hj : j < l.length) : ∃ v, w.cell? ⟨g, j, none⟩ = some v := by
  rw [World.ownsRow.cellAt h j (by omega), List.getElem?_eq_getElem (by rw [bcells_len]; exact hj)]
  exact ⟨_, rfl⟩
theorem OwnY.bytsAt {w : World} {B g cap : Nat} {l : List Nat} (h : OwnY w B (some ⟨g, 0, none⟩) cap l) : Byts w w.heap.size (some ⟨g, 0, none⟩) l := h.byts
theorem OwnY.shape {w : World} {B : Nat} {A : Option Addr} {cap : Nat} {l : List Nat} (h : OwnY w B A cap l) (hl : 0 < l.length) : ∃ g, A = some ⟨g, 0, none⟩ ∧ B ≤ g ∧ g < w.heap.size := by
  rcases h.2 with ⟨_, h0⟩ | ⟨g, cap', cur, hv, hb, hh, _⟩
  · omega
  · simp only [Value.slice.injEq] at hv
    exact ⟨g, hv.1, hb, (Array.getElem?_eq_some_iff.1 hh).1⟩
theorem make_zero (n : Nat) (hn : n ≤ 4398046511104) (w : World) : (Instr.makeSlice 22 (.int .i64 (n : Int)) (.int .i64 (n : Int))).run Try.prog w = .ok (.slice (some ⟨w.heap.size, 0, none⟩) n n) (w.alloc (.cells (bcells (List.replicate n 0)).toArray 5)) := by
  have h := make_bytes n 0 (by omega) w
  simp only [Nat.add_zero, Int.natCast_zero, Int.add_zero] at h
  rw [h]
  congr 3
  simp [bcells]
theorem own_zero (w : World) (n B : Nat) (hB : B ≤ w.heap.size) (hn : n ≤ maxLen) : OwnY (w.alloc (.cells (bcells (List.replicate n 0)).toArray 5)) B (some ⟨w.heap.size, 0, none⟩) n (List.replicate n 0) := by
  have h := World.ownsRow_lit (base := B) (e := 5) (size := 1) w (bcells (List.replicate n 0)).toArray n hB hn (by simp [bcells])
  unfold OwnY
  rw [List.length_replicate]
  simpa using h
theorem byts_zero (w : World) (n : Nat) : Byts (w.alloc (.cells (bcells (List.replicate n 0)).toArray 5)) (w.alloc (.cells (bcells (List.replicate n 0)).toArray 5)).heap.size (some ⟨w.heap.size, 0, none⟩) (List.replicate n 0) := byts_lit _ _ _ w rfl rfl
theorem byts_box (w : World) (l : List Nat) (cs : Array Value) (hcs : (bcells l).toArray = cs) (t : TypeId) (k : Nat) (hk : k < l.length) : (w.alloc (.cells cs t)).cell? ⟨w.heap.size, k, none⟩ = some (.int .u8 (l.getD k 0 : Nat)) := by
  subst hcs
  have e1 : (w.alloc (.cells (bcells l).toArray t)).cell? ⟨w.heap.size, k, none⟩ = (bcells l).toArray[k]? := World.cell?_alloc_at _ t w.heap.size k rfl
  rw [e1, List.getElem?_toArray, bcells_get hk]
theorem xor_i64_nat (a b : Nat) (ha : a < 4294967296) (hb : b < 4294967296) : bits .xor .i64 (a : Int) (b : Int) = ((a ^^^ b : Nat) : Int) := by
  show IntKind.i64.wrap ((BitVec.ofInt 64 (a : Int) ^^^ BitVec.ofInt 64 (b : Int)).toNat : Int) = _
  have h1 : (BitVec.ofInt 64 (a : Int)).toNat = a := by rw [BitVec.ofInt_natCast, BitVec.toNat_ofNat]; exact Nat.mod_eq_of_lt (by omega)
  have h2 : (BitVec.ofInt 64 (b : Int)).toNat = b := by rw [BitVec.ofInt_natCast, BitVec.toNat_ofNat]; exact Nat.mod_eq_of_lt (by omega)
  have h3 : a ^^^ b < 4294967296 := Nat.xor_lt_two_pow (n := 32) ha hb
  rw [BitVec.toNat_xor, h1, h2, IntKind.wrap_i64]
  omega

set_option maxRecDepth 100000 in
set_option maxHeartbeats 4000000 in
theorem changes_any (A : Option Addr) (cap : Nat) (b : List Nat) (at_ : Int) (x0 x1 x2 x3 : Nat) (w : World) (hy : Byts w w.heap.size A b) (hY : Cd.Byt b) (h0 : A = none → b = [] ∧ cap = 0) (hm : b.length ≤ maxLen) (hx0 : x0 < 256) (hx1 : x1 < 256) (hx2 : x2 < 256) (hx3 : x3 < 256) :
    Calls Try.prog 7 #[.slice A b.length cap, .int .i64 at_, .agg #[.int .u8 x0, .int .u8 x1, .int .u8 x2, .int .u8 x3]] w fun e w' => e = .returned (.bool true) ∧ Below w.heap.size w w' := by
  unfold maxLen at hm
  by_cases hfew : ¬ b.length ≤ 300
  · go_enter Try.func7, Try.ntmps7
    go_wp2_with fail
    refine (few_on A none b.length cap 0 0 ⟨#[]⟩ false _ (by rw [decide_eq_false (show ¬ b.length ≤ 300 by omega)]; rfl)).mono ?_
    rintro e w1 ⟨rfl, hb1⟩
    go_wp2_with fail
    refine (awake_any _).mono ?_
    rintro e w2 ⟨rfl, hb2⟩
    go_wp2_with fail
    go_ret
    exact ⟨rfl, (below_new w _).trans ((hb1.trans (hb2.mono hb1.size)).mono (below_new w _).size)⟩
  · have hl : b.length ≤ 300 := by omega
    clear hfew
    by_cases hneg : at_ < 0
    · have hd : decide (at_ < 0) = true := decide_eq_true hneg
      go_enter Try.func7, Try.ntmps7
      go_wp2_with fail
      refine (few_on A none b.length cap 0 0 ⟨#[]⟩ true _ (by rw [decide_eq_true (show b.length ≤ 300 by omega)]; rfl)).mono ?_
      rintro e w1 ⟨rfl, hb1⟩
      go_wp2_with fail
      refine (awake_any _).mono ?_
      rintro e w2 ⟨rfl, hb2⟩
      go_wp2_with fail
      go_ret
      exact ⟨rfl, (below_new w _).trans ((hb1.trans (hb2.mono hb1.size)).mono (below_new w _).size)⟩
    · obtain ⟨p, rfl⟩ := Int.eq_ofNat_of_zero_le (show 0 ≤ at_ by omega)
      have hdn : decide ((p : Int) < 0) = false := decide_eq_false hneg
      clear hneg
      by_cases hge : b.length ≤ p
      · have hge2 : (b.length : Int) ≤ (p : Int) := by omega
        have hd2 : decide ((b.length : Int) ≤ (p : Int)) = true := decide_eq_true hge2
        go_enter Try.func7, Try.ntmps7
        go_wp2_with fail
        refine (few_on A none b.length cap 0 0 ⟨#[]⟩ true _ (by rw [decide_eq_true (show b.length ≤ 300 by omega)]; rfl)).mono ?_
        rintro e w1 ⟨rfl, hb1⟩
        go_wp2_with fail
        refine (awake_any _).mono ?_
        rintro e w2 ⟨rfl, hb2⟩
        go_wp2_with fail
        go_ret
        exact ⟨rfl, (below_new w _).trans ((hb1.trans (hb2.mono hb1.size)).mono (below_new w _).size)⟩
      · have hpn : p < b.length := by omega
        have hpi : ¬ ((b.length : Int) ≤ (p : Int)) := by omega
        have hd2 : decide ((b.length : Int) ≤ (p : Int)) = false := decide_eq_false hpi
        have hmk : ∀ W : World, (Instr.makeSlice 22 (.int .i64 (b.length : Int)) (.int .i64 (b.length : Int))).run Try.prog W = .ok (.slice (some ⟨W.heap.size, 0, none⟩) b.length b.length) (W.alloc (.cells (bcells (List.replicate b.length 0)).toArray 5)) := fun W => make_zero b.length (by omega) W
        clear hge
        obtain ⟨X, hX⟩ : ∃ X, X = [x0, x1, x2, x3] := ⟨_, rfl⟩
        have HX4 := Lib.hid (show X.length = 4 by rw [hX]; rfl)
        have HXB := Lib.hid (show Cd.Byt X by rw [hX]; intro x hx; simp at hx; omega)
        have HXC := Lib.hid (fun k hk => byts_box w X #[.int .u8 (x0 : Int), .int .u8 (x1 : Int), .int .u8 (x2 : Int), .int .u8 (x3 : Int)] (by rw [hX]; simp [bcells]) 41 k hk)
        have HBB := Lib.hid hY
        have H0 := Lib.hid h0
        obtain ⟨bb, off, hA, hbb, hcells⟩ := hy (by omega)
        have HC := Lib.hid hcells
        have HYY := Lib.hid hy
        clear hX hY h0 hcells hy
        subst hA
        go_enter Try.func7, Try.ntmps7
        go_wp2_with fail
        refine (few_on _ none b.length cap 0 0 ⟨#[]⟩ true _ (by rw [decide_eq_true (show b.length ≤ 300 by omega)]; rfl)).mono ?_
        rintro e w1 ⟨rfl, hb1⟩
        have h01 := (below_new w (.cells #[.int .u8 (x0 : Int), .int .u8 (x1 : Int), .int .u8 (x2 : Int), .int .u8 (x3 : Int)] 41)).trans (hb1.mono (below_new w _).size)
        have H1 := Lib.hid ((HYY.out.below h01).more h01.size)
        have HCX := Lib.hid (fun k hk => (hb1.cell (p := ⟨w.heap.size, k, none⟩) (by simp)).trans (HXC.out k hk))
        have HCB := Lib.hid (fun k hk => (h01.cell (p := ⟨bb, off + k, none⟩) hbb).trans (HC.out k hk))
        have h1s : w.heap.size < w1.heap.size := Nat.lt_of_lt_of_le (by simp) hb1.size
        have H0W := Lib.hid h01
        clear h01 hb1 HXC HC
        go_wp2_with (at_builtin; refine wpList_append_bytes rfl (.tmp 28) (.tmp 29) rfl w1.heap.size _ _ 0 [] rfl rfl (OwnY.new w1) _ b.length cap b rfl rfl (byts_after H1.out (below_new w1 _)) H0.out b b.length rfl rfl (by omega) (below_new w1 _).size ?_; intro A2 cap1 w2 ho2 hb2; have hz2 := (below_new w1 _).trans hb2)
        obtain ⟨go, rfl, hgo, hgo2⟩ := ho2.shape (by omega)
        have HOO0 := Lib.hid (ho2.alloc (.cells (bcells (List.replicate b.length 0)).toArray 5))
        have HOM0 := Lib.hid (own_zero w2 b.length w1.heap.size hz2.size (by unfold maxLen; omega))
        have HB0 := Lib.hid (hz2.alloc hz2.size (.cells (bcells (List.replicate b.length 0)).toArray 5))
        obtain ⟨gm, hgmm⟩ : ∃ g, g = w2.heap.size := ⟨_, rfl⟩
        have hgm : w1.heap.size ≤ gm := by rw [hgmm]; exact hz2.size
        have hgg : gm ≠ go := by omega
        clear ho2 hb2 hz2
        go_wp2_with fail
        rw [← hgmm] at HOM0 ⊢
        have HGM := Lib.hid hgmm
        clear hgmm
        go_loopw [9, 10] (fun cv iv wr => ∃ k : Nat, k ≤ 4 ∧ p + k ≤ b.length ∧ iv = .int .i64 k ∧ cv = .bool (Cd.some0 X k) ∧ OwnY wr w1.heap.size (some ⟨go, 0, none⟩) cap1 (Cd.otherL b X p k) ∧ OwnY wr w1.heap.size (some ⟨gm, 0, none⟩) b.length (Cd.maskL X p b.length k) ∧ Below w1.heap.size w1 wr) (fun _ iv _ => 4 - (intOf iv).toNat)
        case atStart => exact ⟨0, by omega, by omega, rfl, rfl, by rw [Cd.otherL_zero]; exact HOO0.out, by rw [Cd.maskL_zero]; exact HOM0.out, HB0.out⟩
        case round =>
          clear HOO0 HOM0 HB0 hmk
          obtain ⟨k, hk4, hpk, rfl, rfl, hoo, hom, hbel⟩ := hrel
          have HOO := Lib.hid hoo
          have HOM := Lib.hid hom
          have HBEL := Lib.hid hbel
          clear hoo hom hbel
          by_cases h4 : k < 4 ∧ p + k < b.length
          · obtain ⟨h4, hp4⟩ := h4
            obtain ⟨c, hcc⟩ : ∃ c, b.getD (p + k) 0 = c := ⟨_, rfl⟩
            obtain ⟨d, hdd⟩ : ∃ d, X.getD k 0 = d := ⟨_, rfl⟩
            have hcl : c < 256 := by rw [← hcc]; exact Cd.getD_byt HBB.out _
            have hdl : d < 256 := by rw [← hdd]; exact Cd.getD_byt HXB.out _
            have HK : Hid (∀ W, Below w1.heap.size w1 W → W.cell? ⟨bb, off + (p + k), none⟩ = some (.int .u8 (c : Int)) ∧ W.cell? ⟨w.heap.size, k, none⟩ = some (.int .u8 (d : Int))) :=
              Lib.hid fun W h => ⟨by rw [h.cell (p := ⟨bb, off + (p + k), none⟩) (Nat.lt_trans hbb h1s), HCB.out (p + k) hp4, hcc], by rw [h.cell (p := ⟨w.heap.size, k, none⟩) h1s, HCX.out k (by rw [HX4.out]; exact h4), hdd]⟩
            obtain ⟨y, hyy⟩ : ∃ y, c ^^^ d = y := ⟨_, rfl⟩
            have hxor := u8_xor_nat c d hcl hdl
            rw [hyy] at hxor
            have HYS := Lib.hid (show Cd.otherL b X p (k + 1) = (Cd.otherL b X p k).set (p + k) y by rw [Cd.otherL_set, hcc, hdd, hyy])
            have HD := Lib.hid hdd
            have HSU := Lib.hid (Cd.some0_succ (X := X) (i := k) (by rw [HX4.out]; exact h4))
            clear hcc hyy hdd
            by_cases hch : Cd.some0 X k = true
            · have HCH := Lib.hid hch
              rw [hch]
              clear hch
              have hc := (HK.out _ HBEL.out).1
              have hx := (HK.out _ HBEL.out).2
              have hco := OwnY.cellSome HOO.out (p + k) (by rw [Cd.otherL_len]; omega)
              obtain ⟨vo, hco⟩ := hco
              have hfo := World.ownsRow.frozenAt HOO.out (p + k)
              have hw1 : IntKind.i64.wrap ((p : Int) + (k : Int)) = (p : Int) + (k : Int) := IntWalk.i64_in _ ⟨by omega, by omega⟩
              have hw2 : (0 : Int) ≤ (p : Int) + (k : Int) := by omega
              have hw4 : (p : Int) + (k : Int) < (b.length : Int) := by omega
              have hw5 : (k : Int) < 4 := by omega
              have hw6 : decide (k < 4) = true := decide_eq_true (by omega)
              have hw3 : ((p : Int) + (k : Int)).toNat = p + k := by omega
              go_wp2_with fail
              refine wp_region_held_drew (S := fun W => W.cell? ⟨bb, off + (p + k), none⟩ = some (.int .u8 (c : Int)) ∧ W.cell? ⟨w.heap.size, k, none⟩ = some (.int .u8 (d : Int))) (by kernel_rfl) (HK.out _ HBEL.out.drew) (fun hHeld => ?_)
              refine wpAnyH_take (i := 0) (v := ?_) at0 (by kernel_rfl) (by kernel_rfl) (by kernel_rfl) (fun _ _ _ h => h) (Or.inl ⟨by rfl, ?_⟩) (by assumption) ?_
              rotate_left
              · (intro w hSw; (try dsimp only at hSw); go_simp; first | done | with_reducible rfl)
              (try simp only [Act.put, List.setIfInBounds_toArray, List.set_cons_zero, List.set_cons_succ])
              refine wpAnyH_take (i := 1) (v := ?_) (atS <| at0) (by kernel_rfl) (by kernel_rfl) (by kernel_rfl) (fun _ _ _ h => h) (Or.inl ⟨by rfl, ?_⟩) (by assumption) ?_
              rotate_left
              · (intro w hSw; (try dsimp only at hSw); go_simp; first | done | with_reducible rfl)
              (try simp only [Act.put, List.setIfInBounds_toArray, List.set_cons_zero, List.set_cons_succ])
              refine wpAnyH_take (i := 2) (v := ?_) (atS <| atS <| at0) (by kernel_rfl) (by kernel_rfl) (by kernel_rfl) (fun _ _ _ h => h) (Or.inl ⟨by rfl, ?_⟩) (by assumption) ?_
              rotate_left
              · (intro w hSw; (try dsimp only at hSw); go_simp; first | done | with_reducible rfl)
              (try simp only [Act.put, List.setIfInBounds_toArray, List.set_cons_zero, List.set_cons_succ])
              refine wpAnyH_take (i := 3) (v := ?_) (atS <| atS <| atS <| at0) (by kernel_rfl) (by kernel_rfl) (by kernel_rfl) (fun _ _ _ h => h) (Or.inl ⟨by rfl, ?_⟩) (by assumption) ?_
              rotate_left
              · (intro w hSw; (try dsimp only at hSw); go_simp; first | done | with_reducible rfl)
              (try simp only [Act.put, List.setIfInBounds_toArray, List.set_cons_zero, List.set_cons_succ])
              refine wpAnyH_take (i := 4) (v := ?_) (atS <| atS <| atS <| atS <| at0) (by kernel_rfl) (by kernel_rfl) (by kernel_rfl) (fun _ _ _ h => h) (Or.inl ⟨by rfl, ?_⟩) (by assumption) ?_
              rotate_left
              · (intro w hSw; (try dsimp only at hSw); go_simp; first | done | with_reducible rfl)
              (try simp only [Act.put, List.setIfInBounds_toArray, List.set_cons_zero, List.set_cons_succ])
              refine wpAnyH_take (i := 5) (v := ?_) (atS <| atS <| atS <| atS <| atS <| at0) (by kernel_rfl) (by kernel_rfl) (by kernel_rfl) (fun _ _ _ h => h) (Or.inl ⟨by rfl, ?_⟩) (by assumption) ?_
              rotate_left
              · (intro w hSw; (try dsimp only at hSw); go_simp; first | done | with_reducible rfl)
              (try simp only [Act.put, List.setIfInBounds_toArray, List.set_cons_zero, List.set_cons_succ])
              refine wpAnyH_take (i := 6) (v := ?_) (atS <| atS <| atS <| atS <| atS <| atS <| at0) (by kernel_rfl) (by kernel_rfl) (by kernel_rfl) (fun _ _ _ h => h) (Or.inl ⟨by rfl, ?_⟩) (by assumption) ?_
              rotate_left
              · (intro w hSw; (try dsimp only at hSw); go_simp; first | done | with_reducible rfl)
              (try simp only [Act.put, List.setIfInBounds_toArray, List.set_cons_zero, List.set_cons_succ])
              refine wpAnyH_take (i := 7) (v := ?_) (atS <| atS <| atS <| atS <| atS <| atS <| atS <| at0) (by kernel_rfl) (by kernel_rfl) (by kernel_rfl) (fun _ _ _ h => h) (Or.inl ⟨by rfl, ?_⟩) (by assumption) ?_
              rotate_left
              · (intro w hSw; (try dsimp only at hSw); go_simp; first | done | with_reducible rfl)
              (try simp only [Act.put, List.setIfInBounds_toArray, List.set_cons_zero, List.set_cons_succ])
              refine wpAnyH_take (i := 8) (v := ?_) (atS <| atS <| atS <| atS <| atS <| atS <| atS <| atS <| at0) (by kernel_rfl) (by kernel_rfl) (by kernel_rfl) (fun _ _ _ h => h) (Or.inl ⟨by rfl, ?_⟩) (by assumption) ?_
              rotate_left
              · (intro w hSw; (try dsimp only at hSw); go_simp; first | done | with_reducible rfl)
              (try simp only [Act.put, List.setIfInBounds_toArray, List.set_cons_zero, List.set_cons_succ])
              refine wpAnyH_take (i := 9) (v := ?_) (atS <| atS <| atS <| atS <| atS <| atS <| atS <| atS <| atS <| at0) (by kernel_rfl) (by kernel_rfl) (by kernel_rfl) (fun _ _ _ h => h) (Or.inl ⟨by rfl, ?_⟩) (by assumption) ?_
              rotate_left
              · (intro w hSw; (try dsimp only at hSw); go_simp; first | done | with_reducible rfl)
              (try simp only [Act.put, List.setIfInBounds_toArray, List.set_cons_zero, List.set_cons_succ])
              refine wpAnyH_take (i := 10) (v := ?_) (atS <| atS <| atS <| atS <| atS <| atS <| atS <| atS <| atS <| atS <| at0) (by kernel_rfl) (by kernel_rfl) (by kernel_rfl) (fun _ _ _ h => h) (Or.inl ⟨by rfl, ?_⟩) (by assumption) ?_
              rotate_left
              · (intro w hSw; (try dsimp only at hSw); go_simp; first | done | with_reducible rfl)
              (try simp only [Act.put, List.setIfInBounds_toArray, List.set_cons_zero, List.set_cons_succ])
              refine wpAnyH_take (i := 11) (v := ?_) (atS <| atS <| atS <| atS <| atS <| atS <| atS <| atS <| atS <| atS <| atS <| at0) (by kernel_rfl) (by kernel_rfl) (by kernel_rfl) (fun _ _ _ h => h) (Or.inl ⟨by rfl, ?_⟩) (by assumption) ?_
              rotate_left
              · (intro w hSw; (try dsimp only at hSw); go_simp; first | done | with_reducible rfl)
              (try simp only [Act.put, List.setIfInBounds_toArray, List.set_cons_zero, List.set_cons_succ])
              refine wpAnyH_take (i := 12) (v := ?_) (atS <| atS <| atS <| atS <| atS <| atS <| atS <| atS <| atS <| atS <| atS <| atS <| at0) (by kernel_rfl) (by kernel_rfl) (by kernel_rfl) (fun _ _ _ h => h) (Or.inl ⟨by rfl, ?_⟩) (by assumption) ?_
              rotate_left
              · (intro w hSw; (try dsimp only at hSw); go_simp; first | done | with_reducible rfl)
              (try simp only [Act.put, List.setIfInBounds_toArray, List.set_cons_zero, List.set_cons_succ])
              refine wpAnyH_take (i := 13) (v := ?_) (atS <| atS <| atS <| atS <| atS <| atS <| atS <| atS <| atS <| atS <| atS <| atS <| atS <| at0) (by kernel_rfl) (by kernel_rfl) (by kernel_rfl) (fun _ _ _ h => h) (Or.inl ⟨by rfl, ?_⟩) (by assumption) ?_
              rotate_left
              · (intro w hSw; (try dsimp only at hSw); go_simp; first | done | with_reducible rfl)
              (try simp only [Act.put, List.setIfInBounds_toArray, List.set_cons_zero, List.set_cons_succ])
              refine wpAnyH_take (i := 14) (v := ?_) (atS <| atS <| atS <| atS <| atS <| atS <| atS <| atS <| atS <| atS <| atS <| atS <| atS <| atS <| at0) (by kernel_rfl) (by kernel_rfl) (by kernel_rfl) (fun _ _ _ h => h) (Or.inl ⟨by rfl, ?_⟩) (by assumption) ?_
              rotate_left
              · (intro w hSw; (try dsimp only at hSw); go_simp; first | done | with_reducible rfl)
              (try simp only [Act.put, List.setIfInBounds_toArray, List.set_cons_zero, List.set_cons_succ])
              refine wpAnyH_ready (rs := [15]) (by kernel_rfl) (by simp) ?_
              refine AllReadyH.cons (atS <| atS <| atS <| atS <| atS <| atS <| atS <| atS <| atS <| atS <| atS <| atS <| atS <| atS <| atS <| at0) (fun K hK => ?_) AllReadyH.nil
              go_simp
              refine hK.out _ _ (by first | exact HK.out _ (HBEL.out.setCell (p := ⟨go, p + k, none⟩) hgo _).drew | exact HK.out _ (HBEL.out.drew.setCell (p := ⟨go, p + k, none⟩) hgo _)) (fun hHeld1 => ?_)
              clear hK K hHeld
              have hHeld := hHeld1
              clear hHeld1
              (try simp only [Act.put, List.setIfInBounds_toArray, List.set_cons_zero, List.set_cons_succ])
              refine wpAnyH_done (by kernel_rfl) ?_ _
              clear hw1 hw2 hw3 hw4 hco hfo hx hc
              have ho9 := OwnY.store HOO.out (p + k) y
              have hb9 := HBEL.out.setCell (p := ⟨go, p + k, none⟩) hgo (.int .u8 (y : Int))
              have hm9 := OwnY.keep HOM.out ho9.2 (fun e => hgg e)
              have hcx9 := (HK.out _ hb9).2
              have hcm9 := OwnY.cellSome hm9 (p + k) (by rw [Cd.maskL_len]; omega)
              have hfm9 := World.ownsRow.frozenAt hm9 (p + k)
              have ho9' := ho9.1
              clear ho9
              revert ho9' hb9 hm9 hcx9 hcm9 hfm9
              generalize wr.setCell ⟨go, p + k, none⟩ (.int .u8 (y : Int)) = w9
              rintro hb9 hm9 hcx9 ⟨vm, hcm9⟩ hfm9 ho9
              have HB9 := Lib.hid hb9
              have HM9 := Lib.hid hm9
              have HO9 := Lib.hid ho9
              clear hb9 hm9 ho9
              have hm10 := OwnY.store (w := w9.drew) HM9.out (p + k) d
              have hb10 := HB9.out.drew.setCell (p := ⟨gm, p + k, none⟩) hgm (.int .u8 (d : Int))
              have ho10 := OwnY.keep (w := w9.drew) HO9.out hm10.2 (fun e => hgg e.symm)
              have hcx10 := (HK.out _ hb10).2
              have HB10 := Lib.hid hb10
              have HO10 := Lib.hid ho10
              have HM10 := Lib.hid hm10.1
              clear hb10 ho10 hm10
              go_wp2_with fail
              go_roundw
              case rel => exact ⟨k + 1, by omega, by omega, by go_num, by (rw [HSU.out, HCH.out]; rfl), by rw [HYS.out]; exact HO10.out, by rw [Cd.maskL_set, HD.out]; exact HM10.out, HB10.out⟩
              case measure => simp [intOf]; omega
            · have hch2 : Cd.some0 X k = false := by simpa using hch
              have HCH := Lib.hid hch2
              rw [hch2]
              clear hch hch2
              by_cases hd0 : d = 0
              · have hdz : ((d : Int) != 0) = false := by simp [hd0]
                have HD0 := Lib.hid hd0
                clear hd0
                have hc := (HK.out _ HBEL.out).1
                have hx := (HK.out _ HBEL.out).2
                have hco := OwnY.cellSome HOO.out (p + k) (by rw [Cd.otherL_len]; omega)
                obtain ⟨vo, hco⟩ := hco
                have hfo := World.ownsRow.frozenAt HOO.out (p + k)
                have hw1 : IntKind.i64.wrap ((p : Int) + (k : Int)) = (p : Int) + (k : Int) := IntWalk.i64_in _ ⟨by omega, by omega⟩
                have hw2 : (0 : Int) ≤ (p : Int) + (k : Int) := by omega
                have hw4 : (p : Int) + (k : Int) < (b.length : Int) := by omega
                have hw5 : (k : Int) < 4 := by omega
                have hw6 : decide (k < 4) = true := decide_eq_true (by omega)
                have hw3 : ((p : Int) + (k : Int)).toNat = p + k := by omega
                go_wp2_with fail
                refine wp_region_held_drew (S := fun W => W.cell? ⟨bb, off + (p + k), none⟩ = some (.int .u8 (c : Int)) ∧ W.cell? ⟨w.heap.size, k, none⟩ = some (.int .u8 (d : Int))) (by kernel_rfl) (HK.out _ HBEL.out.drew) (fun hHeld => ?_)
                refine wpAnyH_take (i := 0) (v := ?_) at0 (by kernel_rfl) (by kernel_rfl) (by kernel_rfl) (fun _ _ _ h => h) (Or.inl ⟨by rfl, ?_⟩) (by assumption) ?_
                rotate_left
                · (intro w hSw; (try dsimp only at hSw); go_simp; first | done | with_reducible rfl)
                (try simp only [Act.put, List.setIfInBounds_toArray, List.set_cons_zero, List.set_cons_succ])
                refine wpAnyH_take (i := 1) (v := ?_) (atS <| at0) (by kernel_rfl) (by kernel_rfl) (by kernel_rfl) (fun _ _ _ h => h) (Or.inl ⟨by rfl, ?_⟩) (by assumption) ?_
                rotate_left
                · (intro w hSw; (try dsimp only at hSw); go_simp; first | done | with_reducible rfl)
                (try simp only [Act.put, List.setIfInBounds_toArray, List.set_cons_zero, List.set_cons_succ])
                refine wpAnyH_take (i := 2) (v := ?_) (atS <| atS <| at0) (by kernel_rfl) (by kernel_rfl) (by kernel_rfl) (fun _ _ _ h => h) (Or.inl ⟨by rfl, ?_⟩) (by assumption) ?_
                rotate_left
                · (intro w hSw; (try dsimp only at hSw); go_simp; first | done | with_reducible rfl)
                (try simp only [Act.put, List.setIfInBounds_toArray, List.set_cons_zero, List.set_cons_succ])
                refine wpAnyH_take (i := 3) (v := ?_) (atS <| atS <| atS <| at0) (by kernel_rfl) (by kernel_rfl) (by kernel_rfl) (fun _ _ _ h => h) (Or.inl ⟨by rfl, ?_⟩) (by assumption) ?_
                rotate_left
                · (intro w hSw; (try dsimp only at hSw); go_simp; first | done | with_reducible rfl)
                (try simp only [Act.put, List.setIfInBounds_toArray, List.set_cons_zero, List.set_cons_succ])
                refine wpAnyH_take (i := 4) (v := ?_) (atS <| atS <| atS <| atS <| at0) (by kernel_rfl) (by kernel_rfl) (by kernel_rfl) (fun _ _ _ h => h) (Or.inl ⟨by rfl, ?_⟩) (by assumption) ?_
                rotate_left
                · (intro w hSw; (try dsimp only at hSw); go_simp; first | done | with_reducible rfl)
                (try simp only [Act.put, List.setIfInBounds_toArray, List.set_cons_zero, List.set_cons_succ])
                refine wpAnyH_take (i := 5) (v := ?_) (atS <| atS <| atS <| atS <| atS <| at0) (by kernel_rfl) (by kernel_rfl) (by kernel_rfl) (fun _ _ _ h => h) (Or.inl ⟨by rfl, ?_⟩) (by assumption) ?_
                rotate_left
                · (intro w hSw; (try dsimp only at hSw); go_simp; first | done | with_reducible rfl)
                (try simp only [Act.put, List.setIfInBounds_toArray, List.set_cons_zero, List.set_cons_succ])
                refine wpAnyH_take (i := 6) (v := ?_) (atS <| atS <| atS <| atS <| atS <| atS <| at0) (by kernel_rfl) (by kernel_rfl) (by kernel_rfl) (fun _ _ _ h => h) (Or.inl ⟨by rfl, ?_⟩) (by assumption) ?_
                rotate_left
                · (intro w hSw; (try dsimp only at hSw); go_simp; first | done | with_reducible rfl)
                (try simp only [Act.put, List.setIfInBounds_toArray, List.set_cons_zero, List.set_cons_succ])
                refine wpAnyH_take (i := 7) (v := ?_) (atS <| atS <| atS <| atS <| atS <| atS <| atS <| at0) (by kernel_rfl) (by kernel_rfl) (by kernel_rfl) (fun _ _ _ h => h) (Or.inl ⟨by rfl, ?_⟩) (by assumption) ?_
                rotate_left
                · (intro w hSw; (try dsimp only at hSw); go_simp; first | done | with_reducible rfl)
                (try simp only [Act.put, List.setIfInBounds_toArray, List.set_cons_zero, List.set_cons_succ])
                refine wpAnyH_take (i := 8) (v := ?_) (atS <| atS <| atS <| atS <| atS <| atS <| atS <| atS <| at0) (by kernel_rfl) (by kernel_rfl) (by kernel_rfl) (fun _ _ _ h => h) (Or.inl ⟨by rfl, ?_⟩) (by assumption) ?_
                rotate_left
                · (intro w hSw; (try dsimp only at hSw); go_simp; first | done | with_reducible rfl)
                (try simp only [Act.put, List.setIfInBounds_toArray, List.set_cons_zero, List.set_cons_succ])
                refine wpAnyH_take (i := 9) (v := ?_) (atS <| atS <| atS <| atS <| atS <| atS <| atS <| atS <| atS <| at0) (by kernel_rfl) (by kernel_rfl) (by kernel_rfl) (fun _ _ _ h => h) (Or.inl ⟨by rfl, ?_⟩) (by assumption) ?_
                rotate_left
                · (intro w hSw; (try dsimp only at hSw); go_simp; first | done | with_reducible rfl)
                (try simp only [Act.put, List.setIfInBounds_toArray, List.set_cons_zero, List.set_cons_succ])
                refine wpAnyH_take (i := 10) (v := ?_) (atS <| atS <| atS <| atS <| atS <| atS <| atS <| atS <| atS <| atS <| at0) (by kernel_rfl) (by kernel_rfl) (by kernel_rfl) (fun _ _ _ h => h) (Or.inl ⟨by rfl, ?_⟩) (by assumption) ?_
                rotate_left
                · (intro w hSw; (try dsimp only at hSw); go_simp; first | done | with_reducible rfl)
                (try simp only [Act.put, List.setIfInBounds_toArray, List.set_cons_zero, List.set_cons_succ])
                refine wpAnyH_take (i := 11) (v := ?_) (atS <| atS <| atS <| atS <| atS <| atS <| atS <| atS <| atS <| atS <| atS <| at0) (by kernel_rfl) (by kernel_rfl) (by kernel_rfl) (fun _ _ _ h => h) (Or.inl ⟨by rfl, ?_⟩) (by assumption) ?_
                rotate_left
                · (intro w hSw; (try dsimp only at hSw); go_simp; first | done | with_reducible rfl)
                (try simp only [Act.put, List.setIfInBounds_toArray, List.set_cons_zero, List.set_cons_succ])
                refine wpAnyH_take (i := 12) (v := ?_) (atS <| atS <| atS <| atS <| atS <| atS <| atS <| atS <| atS <| atS <| atS <| atS <| at0) (by kernel_rfl) (by kernel_rfl) (by kernel_rfl) (fun _ _ _ h => h) (Or.inl ⟨by rfl, ?_⟩) (by assumption) ?_
                rotate_left
                · (intro w hSw; (try dsimp only at hSw); go_simp; first | done | with_reducible rfl)
                (try simp only [Act.put, List.setIfInBounds_toArray, List.set_cons_zero, List.set_cons_succ])
                refine wpAnyH_take (i := 13) (v := ?_) (atS <| atS <| atS <| atS <| atS <| atS <| atS <| atS <| atS <| atS <| atS <| atS <| atS <| at0) (by kernel_rfl) (by kernel_rfl) (by kernel_rfl) (fun _ _ _ h => h) (Or.inl ⟨by rfl, ?_⟩) (by assumption) ?_
                rotate_left
                · (intro w hSw; (try dsimp only at hSw); go_simp; first | done | with_reducible rfl)
                (try simp only [Act.put, List.setIfInBounds_toArray, List.set_cons_zero, List.set_cons_succ])
                refine wpAnyH_take (i := 14) (v := ?_) (atS <| atS <| atS <| atS <| atS <| atS <| atS <| atS <| atS <| atS <| atS <| atS <| atS <| atS <| at0) (by kernel_rfl) (by kernel_rfl) (by kernel_rfl) (fun _ _ _ h => h) (Or.inl ⟨by rfl, ?_⟩) (by assumption) ?_
                rotate_left
                · (intro w hSw; (try dsimp only at hSw); go_simp; first | done | with_reducible rfl)
                (try simp only [Act.put, List.setIfInBounds_toArray, List.set_cons_zero, List.set_cons_succ])
                refine wpAnyH_ready (rs := [15]) (by kernel_rfl) (by simp) ?_
                refine AllReadyH.cons (atS <| atS <| atS <| atS <| atS <| atS <| atS <| atS <| atS <| atS <| atS <| atS <| atS <| atS <| atS <| at0) (fun K hK => ?_) AllReadyH.nil
                go_simp
                refine hK.out _ _ (by first | exact HK.out _ (HBEL.out.setCell (p := ⟨go, p + k, none⟩) hgo _).drew | exact HK.out _ (HBEL.out.drew.setCell (p := ⟨go, p + k, none⟩) hgo _)) (fun hHeld1 => ?_)
                clear hK K hHeld
                have hHeld := hHeld1
                clear hHeld1
                (try simp only [Act.put, List.setIfInBounds_toArray, List.set_cons_zero, List.set_cons_succ])
                refine wpAnyH_done (by kernel_rfl) ?_ _
                clear hw1 hw2 hw3 hw4 hco hfo hx hc
                have ho9 := OwnY.store HOO.out (p + k) y
                have hb9 := HBEL.out.setCell (p := ⟨go, p + k, none⟩) hgo (.int .u8 (y : Int))
                have hm9 := OwnY.keep HOM.out ho9.2 (fun e => hgg e)
                have hcx9 := (HK.out _ hb9).2
                have hcm9 := OwnY.cellSome hm9 (p + k) (by rw [Cd.maskL_len]; omega)
                have hfm9 := World.ownsRow.frozenAt hm9 (p + k)
                have ho9' := ho9.1
                clear ho9
                revert ho9' hb9 hm9 hcx9 hcm9 hfm9
                generalize wr.setCell ⟨go, p + k, none⟩ (.int .u8 (y : Int)) = w9
                rintro hb9 hm9 hcx9 ⟨vm, hcm9⟩ hfm9 ho9
                have HB9 := Lib.hid hb9
                have HM9 := Lib.hid hm9
                have HO9 := Lib.hid ho9
                clear hb9 hm9 ho9
                have hm10 := OwnY.store (w := w9.drew) HM9.out (p + k) d
                have hb10 := HB9.out.drew.setCell (p := ⟨gm, p + k, none⟩) hgm (.int .u8 (d : Int))
                have ho10 := OwnY.keep (w := w9.drew) HO9.out hm10.2 (fun e => hgg e.symm)
                have hcx10 := (HK.out _ hb10).2
                have HB10 := Lib.hid hb10
                have HO10 := Lib.hid ho10
                have HM10 := Lib.hid hm10.1
                clear hb10 ho10 hm10
                go_wp2_with fail
                go_roundw
                case rel => exact ⟨k + 1, by omega, by omega, by go_num, by (rw [HSU.out, HCH.out, HD.out, HD0.out]; rfl), by rw [HYS.out]; exact HO10.out, by rw [Cd.maskL_set, HD.out]; exact HM10.out, HB10.out⟩
                case measure => simp [intOf]; omega
              · have hdz : ((d : Int) != 0) = true := by simp [hd0]
                have HD0 := Lib.hid hd0
                clear hd0
                have hc := (HK.out _ HBEL.out).1
                have hx := (HK.out _ HBEL.out).2
                have hco := OwnY.cellSome HOO.out (p + k) (by rw [Cd.otherL_len]; omega)
                obtain ⟨vo, hco⟩ := hco
                have hfo := World.ownsRow.frozenAt HOO.out (p + k)
                have hw1 : IntKind.i64.wrap ((p : Int) + (k : Int)) = (p : Int) + (k : Int) := IntWalk.i64_in _ ⟨by omega, by omega⟩
                have hw2 : (0 : Int) ≤ (p : Int) + (k : Int) := by omega
                have hw4 : (p : Int) + (k : Int) < (b.length : Int) := by omega
                have hw5 : (k : Int) < 4 := by omega
                have hw6 : decide (k < 4) = true := decide_eq_true (by omega)
                have hw3 : ((p : Int) + (k : Int)).toNat = p + k := by omega
                go_wp2_with fail
                refine wp_region_held_drew (S := fun W => W.cell? ⟨bb, off + (p + k), none⟩ = some (.int .u8 (c : Int)) ∧ W.cell? ⟨w.heap.size, k, none⟩ = some (.int .u8 (d : Int))) (by kernel_rfl) (HK.out _ HBEL.out.drew) (fun hHeld => ?_)
                refine wpAnyH_take (i := 0) (v := ?_) at0 (by kernel_rfl) (by kernel_rfl) (by kernel_rfl) (fun _ _ _ h => h) (Or.inl ⟨by rfl, ?_⟩) (by assumption) ?_
                rotate_left
                · (intro w hSw; (try dsimp only at hSw); go_simp; first | done | with_reducible rfl)
                (try simp only [Act.put, List.setIfInBounds_toArray, List.set_cons_zero, List.set_cons_succ])
                refine wpAnyH_take (i := 1) (v := ?_) (atS <| at0) (by kernel_rfl) (by kernel_rfl) (by kernel_rfl) (fun _ _ _ h => h) (Or.inl ⟨by rfl, ?_⟩) (by assumption) ?_
                rotate_left
                · (intro w hSw; (try dsimp only at hSw); go_simp; first | done | with_reducible rfl)
                (try simp only [Act.put, List.setIfInBounds_toArray, List.set_cons_zero, List.set_cons_succ])
                refine wpAnyH_take (i := 2) (v := ?_) (atS <| atS <| at0) (by kernel_rfl) (by kernel_rfl) (by kernel_rfl) (fun _ _ _ h => h) (Or.inl ⟨by rfl, ?_⟩) (by assumption) ?_
                rotate_left
                · (intro w hSw; (try dsimp only at hSw); go_simp; first | done | with_reducible rfl)
                (try simp only [Act.put, List.setIfInBounds_toArray, List.set_cons_zero, List.set_cons_succ])
                refine wpAnyH_take (i := 3) (v := ?_) (atS <| atS <| atS <| at0) (by kernel_rfl) (by kernel_rfl) (by kernel_rfl) (fun _ _ _ h => h) (Or.inl ⟨by rfl, ?_⟩) (by assumption) ?_
                rotate_left
                · (intro w hSw; (try dsimp only at hSw); go_simp; first | done | with_reducible rfl)
                (try simp only [Act.put, List.setIfInBounds_toArray, List.set_cons_zero, List.set_cons_succ])
                refine wpAnyH_take (i := 4) (v := ?_) (atS <| atS <| atS <| atS <| at0) (by kernel_rfl) (by kernel_rfl) (by kernel_rfl) (fun _ _ _ h => h) (Or.inl ⟨by rfl, ?_⟩) (by assumption) ?_
                rotate_left
                · (intro w hSw; (try dsimp only at hSw); go_simp; first | done | with_reducible rfl)
                (try simp only [Act.put, List.setIfInBounds_toArray, List.set_cons_zero, List.set_cons_succ])
                refine wpAnyH_take (i := 5) (v := ?_) (atS <| atS <| atS <| atS <| atS <| at0) (by kernel_rfl) (by kernel_rfl) (by kernel_rfl) (fun _ _ _ h => h) (Or.inl ⟨by rfl, ?_⟩) (by assumption) ?_
                rotate_left
                · (intro w hSw; (try dsimp only at hSw); go_simp; first | done | with_reducible rfl)
                (try simp only [Act.put, List.setIfInBounds_toArray, List.set_cons_zero, List.set_cons_succ])
                refine wpAnyH_take (i := 6) (v := ?_) (atS <| atS <| atS <| atS <| atS <| atS <| at0) (by kernel_rfl) (by kernel_rfl) (by kernel_rfl) (fun _ _ _ h => h) (Or.inl ⟨by rfl, ?_⟩) (by assumption) ?_
                rotate_left
                · (intro w hSw; (try dsimp only at hSw); go_simp; first | done | with_reducible rfl)
                (try simp only [Act.put, List.setIfInBounds_toArray, List.set_cons_zero, List.set_cons_succ])
                refine wpAnyH_take (i := 7) (v := ?_) (atS <| atS <| atS <| atS <| atS <| atS <| atS <| at0) (by kernel_rfl) (by kernel_rfl) (by kernel_rfl) (fun _ _ _ h => h) (Or.inl ⟨by rfl, ?_⟩) (by assumption) ?_
                rotate_left
                · (intro w hSw; (try dsimp only at hSw); go_simp; first | done | with_reducible rfl)
                (try simp only [Act.put, List.setIfInBounds_toArray, List.set_cons_zero, List.set_cons_succ])
                refine wpAnyH_take (i := 8) (v := ?_) (atS <| atS <| atS <| atS <| atS <| atS <| atS <| atS <| at0) (by kernel_rfl) (by kernel_rfl) (by kernel_rfl) (fun _ _ _ h => h) (Or.inl ⟨by rfl, ?_⟩) (by assumption) ?_
                rotate_left
                · (intro w hSw; (try dsimp only at hSw); go_simp; first | done | with_reducible rfl)
                (try simp only [Act.put, List.setIfInBounds_toArray, List.set_cons_zero, List.set_cons_succ])
                refine wpAnyH_take (i := 9) (v := ?_) (atS <| atS <| atS <| atS <| atS <| atS <| atS <| atS <| atS <| at0) (by kernel_rfl) (by kernel_rfl) (by kernel_rfl) (fun _ _ _ h => h) (Or.inl ⟨by rfl, ?_⟩) (by assumption) ?_
                rotate_left
                · (intro w hSw; (try dsimp only at hSw); go_simp; first | done | with_reducible rfl)
                (try simp only [Act.put, List.setIfInBounds_toArray, List.set_cons_zero, List.set_cons_succ])
                refine wpAnyH_take (i := 10) (v := ?_) (atS <| atS <| atS <| atS <| atS <| atS <| atS <| atS <| atS <| atS <| at0) (by kernel_rfl) (by kernel_rfl) (by kernel_rfl) (fun _ _ _ h => h) (Or.inl ⟨by rfl, ?_⟩) (by assumption) ?_
                rotate_left
                · (intro w hSw; (try dsimp only at hSw); go_simp; first | done | with_reducible rfl)
                (try simp only [Act.put, List.setIfInBounds_toArray, List.set_cons_zero, List.set_cons_succ])
                refine wpAnyH_take (i := 11) (v := ?_) (atS <| atS <| atS <| atS <| atS <| atS <| atS <| atS <| atS <| atS <| atS <| at0) (by kernel_rfl) (by kernel_rfl) (by kernel_rfl) (fun _ _ _ h => h) (Or.inl ⟨by rfl, ?_⟩) (by assumption) ?_
                rotate_left
                · (intro w hSw; (try dsimp only at hSw); go_simp; first | done | with_reducible rfl)
                (try simp only [Act.put, List.setIfInBounds_toArray, List.set_cons_zero, List.set_cons_succ])
                refine wpAnyH_take (i := 12) (v := ?_) (atS <| atS <| atS <| atS <| atS <| atS <| atS <| atS <| atS <| atS <| atS <| atS <| at0) (by kernel_rfl) (by kernel_rfl) (by kernel_rfl) (fun _ _ _ h => h) (Or.inl ⟨by rfl, ?_⟩) (by assumption) ?_
                rotate_left
                · (intro w hSw; (try dsimp only at hSw); go_simp; first | done | with_reducible rfl)
                (try simp only [Act.put, List.setIfInBounds_toArray, List.set_cons_zero, List.set_cons_succ])
                refine wpAnyH_take (i := 13) (v := ?_) (atS <| atS <| atS <| atS <| atS <| atS <| atS <| atS <| atS <| atS <| atS <| atS <| atS <| at0) (by kernel_rfl) (by kernel_rfl) (by kernel_rfl) (fun _ _ _ h => h) (Or.inl ⟨by rfl, ?_⟩) (by assumption) ?_
                rotate_left
                · (intro w hSw; (try dsimp only at hSw); go_simp; first | done | with_reducible rfl)
                (try simp only [Act.put, List.setIfInBounds_toArray, List.set_cons_zero, List.set_cons_succ])
                refine wpAnyH_take (i := 14) (v := ?_) (atS <| atS <| atS <| atS <| atS <| atS <| atS <| atS <| atS <| atS <| atS <| atS <| atS <| atS <| at0) (by kernel_rfl) (by kernel_rfl) (by kernel_rfl) (fun _ _ _ h => h) (Or.inl ⟨by rfl, ?_⟩) (by assumption) ?_
                rotate_left
                · (intro w hSw; (try dsimp only at hSw); go_simp; first | done | with_reducible rfl)
                (try simp only [Act.put, List.setIfInBounds_toArray, List.set_cons_zero, List.set_cons_succ])
                refine wpAnyH_ready (rs := [15]) (by kernel_rfl) (by simp) ?_
                refine AllReadyH.cons (atS <| atS <| atS <| atS <| atS <| atS <| atS <| atS <| atS <| atS <| atS <| atS <| atS <| atS <| atS <| at0) (fun K hK => ?_) AllReadyH.nil
                go_simp
                refine hK.out _ _ (by first | exact HK.out _ (HBEL.out.setCell (p := ⟨go, p + k, none⟩) hgo _).drew | exact HK.out _ (HBEL.out.drew.setCell (p := ⟨go, p + k, none⟩) hgo _)) (fun hHeld1 => ?_)
                clear hK K hHeld
                have hHeld := hHeld1
                clear hHeld1
                (try simp only [Act.put, List.setIfInBounds_toArray, List.set_cons_zero, List.set_cons_succ])
                refine wpAnyH_done (by kernel_rfl) ?_ _
                clear hw1 hw2 hw3 hw4 hco hfo hx hc
                have ho9 := OwnY.store HOO.out (p + k) y
                have hb9 := HBEL.out.setCell (p := ⟨go, p + k, none⟩) hgo (.int .u8 (y : Int))
                have hm9 := OwnY.keep HOM.out ho9.2 (fun e => hgg e)
                have hcx9 := (HK.out _ hb9).2
                have hcm9 := OwnY.cellSome hm9 (p + k) (by rw [Cd.maskL_len]; omega)
                have hfm9 := World.ownsRow.frozenAt hm9 (p + k)
                have ho9' := ho9.1
                clear ho9
                revert ho9' hb9 hm9 hcx9 hcm9 hfm9
                generalize wr.setCell ⟨go, p + k, none⟩ (.int .u8 (y : Int)) = w9
                rintro hb9 hm9 hcx9 ⟨vm, hcm9⟩ hfm9 ho9
                have HB9 := Lib.hid hb9
                have HM9 := Lib.hid hm9
                have HO9 := Lib.hid ho9
                clear hb9 hm9 ho9
                have hm10 := OwnY.store (w := w9.drew) HM9.out (p + k) d
                have hb10 := HB9.out.drew.setCell (p := ⟨gm, p + k, none⟩) hgm (.int .u8 (d : Int))
                have ho10 := OwnY.keep (w := w9.drew) HO9.out hm10.2 (fun e => hgg e.symm)
                have hcx10 := (HK.out _ hb10).2
                have HB10 := Lib.hid hb10
                have HO10 := Lib.hid ho10
                have HM10 := Lib.hid hm10.1
                clear hb10 ho10 hm10
                go_wp2_with fail
                go_roundw
                case rel => exact ⟨k + 1, by omega, by omega, by go_num, by (rw [HSU.out, HCH.out, HD.out]; simp [HD0.out]), by rw [HYS.out]; exact HO10.out, by rw [Cd.maskL_set, HD.out]; exact HM10.out, HB10.out⟩
                case measure => simp [intOf]; omega
          · by_cases hk : k = 4
            · have hkd : ¬ (k : Int) < 4 := by omega
              have he : k = 4 ∨ p + k = b.length := by omega
              obtain ⟨xs, hxs⟩ : ∃ x, Cd.sum b = x := ⟨_, rfl⟩
              obtain ⟨ys, hys⟩ : ∃ x, Cd.sum (Cd.otherL b X p k) = x := ⟨_, rfl⟩
              obtain ⟨zs, hzs⟩ : ∃ x, Cd.sum (List.replicate b.length 0) = x := ⟨_, rfl⟩
              obtain ⟨ms, hms⟩ : ∃ x, Cd.sum (Cd.maskL X p b.length k) = x := ⟨_, rfl⟩
              have bx : xs < 4294967296 := by rw [← hxs]; exact Cd.sum_lt HBB.out
              have bz : zs < 4294967296 := by rw [← hzs]; exact Cd.sum_lt (Cd.zeros_byt _)
              have bm : ms < 4294967296 := by rw [← hms]; exact Cd.sum_lt (Cd.maskL_byt HXB.out p _ k)
              have hsum := Cd.changes_sum b X p k
              rw [hxs, hys, hzs, hms] at hsum
              have htell := Cd.changes_tell (b := b) HX4.out HXB.out hk4 (p := p) (e := k) (by omega)
              rw [hxs, hys] at htell
              obtain ⟨qx, hqx⟩ : ∃ q, xs ^^^ ms = q := ⟨_, rfl⟩
              have bq : qx < 4294967296 := by rw [← hqx]; exact Nat.xor_lt_two_pow (n := 32) bx bm
              have x1 := xor_i64_nat xs ms bx bm
              have x2 := xor_i64_nat qx zs bq bz
              rw [hqx] at x1
              rw [hqx] at hsum
              rw [← hsum] at x2
              have ix0 : (0 : Int) ≤ (xs : Int) := by omega
              have ix1 : (xs : Int) < 4294967296 := by omega
              have jx1 : decide ((xs : Int) < 4294967296) = true := decide_eq_true ix1
              have hmk0 := fun W : World => make_zero b.length (by omega) W
              have he2 : True := trivial
              have htell2 : ((xs : Int) != (ys : Int)) = Cd.some0 X k := by
                cases hs : Cd.some0 X k with
                | false => have := htell.2 hs; simp [this]
                | true => have : xs ≠ ys := fun h => by rw [htell.1 h] at hs; cases hs
                          simp; omega
              have HCH := Lib.hid htell2
              clear hsum htell hqx he
              obtain ⟨ch, hch⟩ : ∃ ch, Cd.some0 X k = ch := ⟨_, rfl⟩
              rw [hch] at htell2 ⊢
              have hcc : (ch == ch) = true := by simp
              clear hch HCH
              have HXS := Lib.hid hxs
              have HYS := Lib.hid hys
              have HZS := Lib.hid hzs
              have HMS := Lib.hid hms
              clear hxs hys hzs hms
              go_wp2_with fail
              refine (sum_at _ cap b.length b xs wr ((H1.out.below HBEL.out).more HBEL.out.size) HBB.out rfl (by omega) HXS.out).mono ?_
              rintro e w11 ⟨rfl, hb11⟩
              have ho11 := HOO.out.below hb11
              have hm11 := HOM.out.below hb11
              have h11 := HBEL.out.trans (hb11.mono HBEL.out.size)
              go_wp2_with fail
              refine (sum_at (some ⟨go, 0, none⟩) cap1 b.length (Cd.otherL b X p k) ys w11 (OwnY.bytsAt ho11) (Cd.otherL_byt HBB.out HXB.out p k) (Cd.otherL_len _ _ _ _) (by omega) HYS.out).mono ?_
              rintro e w12 ⟨rfl, hb12⟩
              have hm12 := hm11.below hb12
              have h12 := h11.trans (hb12.mono h11.size)
              go_wp2_with fail
              refine (sum_at (some ⟨w12.heap.size, 0, none⟩) b.length b.length (List.replicate b.length 0) zs _ (byts_zero w12 b.length) (Cd.zeros_byt _) (by simp) (by omega) HZS.out).mono ?_
              rintro e w13 ⟨rfl, hb13⟩
              have hm13 := hm12.below ((below_new w12 _).trans (hb13.mono (below_new w12 _).size))
              have h13 := (h12.trans ((below_new w12 _).mono h12.size)).trans (hb13.mono (Nat.le_trans h12.size (below_new w12 _).size))
              go_wp2_with fail
              refine (sum_at (some ⟨gm, 0, none⟩) b.length b.length (Cd.maskL X p b.length k) ms w13 (OwnY.bytsAt hm13) (Cd.maskL_byt HXB.out p _ k) (Cd.maskL_len _ _ _ _) (by omega) HMS.out).mono ?_
              rintro e w14 ⟨rfl, hb14⟩
              have h14 := h13.trans (hb14.mono h13.size)
              go_wp2_with fail
              refine (awake_any _).mono ?_
              rintro e w15 ⟨rfl, hb15⟩
              have h15 := h14.trans (hb15.mono h14.size)
              go_wp2_with fail
              go_ret
              exact ⟨rfl, H0W.out.trans (h15.mono H0W.out.size)⟩
            · have hkd : (k : Int) < 4 := by omega
              have hpd : ¬ ((p : Int) + (k : Int) < (b.length : Int)) := by omega
              have he : k = 4 ∨ p + k = b.length := by omega
              obtain ⟨xs, hxs⟩ : ∃ x, Cd.sum b = x := ⟨_, rfl⟩
              obtain ⟨ys, hys⟩ : ∃ x, Cd.sum (Cd.otherL b X p k) = x := ⟨_, rfl⟩
              obtain ⟨zs, hzs⟩ : ∃ x, Cd.sum (List.replicate b.length 0) = x := ⟨_, rfl⟩
              obtain ⟨ms, hms⟩ : ∃ x, Cd.sum (Cd.maskL X p b.length k) = x := ⟨_, rfl⟩
              have bx : xs < 4294967296 := by rw [← hxs]; exact Cd.sum_lt HBB.out
              have bz : zs < 4294967296 := by rw [← hzs]; exact Cd.sum_lt (Cd.zeros_byt _)
              have bm : ms < 4294967296 := by rw [← hms]; exact Cd.sum_lt (Cd.maskL_byt HXB.out p _ k)
              have hsum := Cd.changes_sum b X p k
              rw [hxs, hys, hzs, hms] at hsum
              have htell := Cd.changes_tell (b := b) HX4.out HXB.out hk4 (p := p) (e := k) (by omega)
              rw [hxs, hys] at htell
              obtain ⟨qx, hqx⟩ : ∃ q, xs ^^^ ms = q := ⟨_, rfl⟩
              have bq : qx < 4294967296 := by rw [← hqx]; exact Nat.xor_lt_two_pow (n := 32) bx bm
              have x1 := xor_i64_nat xs ms bx bm
              have x2 := xor_i64_nat qx zs bq bz
              rw [hqx] at x1
              rw [hqx] at hsum
              rw [← hsum] at x2
              have ix0 : (0 : Int) ≤ (xs : Int) := by omega
              have ix1 : (xs : Int) < 4294967296 := by omega
              have jx1 : decide ((xs : Int) < 4294967296) = true := decide_eq_true ix1
              have hmk0 := fun W : World => make_zero b.length (by omega) W
              have he2 : True := trivial
              have htell2 : ((xs : Int) != (ys : Int)) = Cd.some0 X k := by
                cases hs : Cd.some0 X k with
                | false => have := htell.2 hs; simp [this]
                | true => have : xs ≠ ys := fun h => by rw [htell.1 h] at hs; cases hs
                          simp; omega
              have HCH := Lib.hid htell2
              clear hsum htell hqx he
              obtain ⟨ch, hch⟩ : ∃ ch, Cd.some0 X k = ch := ⟨_, rfl⟩
              rw [hch] at htell2 ⊢
              have hcc : (ch == ch) = true := by simp
              clear hch HCH
              have HXS := Lib.hid hxs
              have HYS := Lib.hid hys
              have HZS := Lib.hid hzs
              have HMS := Lib.hid hms
              clear hxs hys hzs hms
              go_wp2_with fail
              refine (sum_at _ cap b.length b xs wr ((H1.out.below HBEL.out).more HBEL.out.size) HBB.out rfl (by omega) HXS.out).mono ?_
              rintro e w11 ⟨rfl, hb11⟩
              have ho11 := HOO.out.below hb11
              have hm11 := HOM.out.below hb11
              have h11 := HBEL.out.trans (hb11.mono HBEL.out.size)
              go_wp2_with fail
              refine (sum_at (some ⟨go, 0, none⟩) cap1 b.length (Cd.otherL b X p k) ys w11 (OwnY.bytsAt ho11) (Cd.otherL_byt HBB.out HXB.out p k) (Cd.otherL_len _ _ _ _) (by omega) HYS.out).mono ?_
              rintro e w12 ⟨rfl, hb12⟩
              have hm12 := hm11.below hb12
              have h12 := h11.trans (hb12.mono h11.size)
              go_wp2_with fail
              refine (sum_at (some ⟨w12.heap.size, 0, none⟩) b.length b.length (List.replicate b.length 0) zs _ (byts_zero w12 b.length) (Cd.zeros_byt _) (by simp) (by omega) HZS.out).mono ?_
              rintro e w13 ⟨rfl, hb13⟩
              have hm13 := hm12.below ((below_new w12 _).trans (hb13.mono (below_new w12 _).size))
              have h13 := (h12.trans ((below_new w12 _).mono h12.size)).trans (hb13.mono (Nat.le_trans h12.size (below_new w12 _).size))
              go_wp2_with fail
              refine (sum_at (some ⟨gm, 0, none⟩) b.length b.length (Cd.maskL X p b.length k) ms w13 (OwnY.bytsAt hm13) (Cd.maskL_byt HXB.out p _ k) (Cd.maskL_len _ _ _ _) (by omega) HMS.out).mono ?_
              rintro e w14 ⟨rfl, hb14⟩
              have h14 := h13.trans (hb14.mono h13.size)
              go_wp2_with fail
              refine (awake_any _).mono ?_
              rintro e w15 ⟨rfl, hb15⟩
              have h15 := h14.trans (hb15.mono h14.size)
              go_wp2_with fail
              go_ret
              exact ⟨rfl, H0W.out.trans (h15.mono H0W.out.size)⟩
end Go.Proofs.Ytelanbiedfldgaa
