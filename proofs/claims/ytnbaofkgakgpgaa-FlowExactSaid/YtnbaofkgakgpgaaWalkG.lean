/- The walks of SameInts (of the reference), code (of the statements). -/
import Derived.Test.YtnbaofkgakgpgaaWalkF
import Derived.BigQuiet
import Derived.Deep.QuietTactic
namespace Go.Proofs.Ytnbaofkgakgpgaa
open Go.RowKit

def SamePost (w : World) (r : Bool) (e : Ending) (w' : World) : Prop := e = .returned (.bool r) ∧ Below w.heap.size w w'
theorem below_drewN' {B : Nat} {a w : World} (h : Below B a w) (n : Nat) : Below B a (w.drewN n) := ⟨h.os, h.tape, h.output, h.size, h.block⟩

theorem take_eq_succ {a b : List Int} {k : Nat} (h : a.take k = b.take k) (ha : k < a.length) (hb : k < b.length) (he : a.getD k 0 = b.getD k 0) : a.take (k + 1) = b.take (k + 1) := by
  rw [List.take_succ_eq_append_getElem ha, List.take_succ_eq_append_getElem hb, h]
  simp only [List.getD_eq_getElem?_getD, List.getElem?_eq_getElem ha, List.getElem?_eq_getElem hb, Option.getD_some] at he
  rw [he]

set_option maxHeartbeats 1000000 in
theorem same_any (A1 A2 : Option Addr) (c1 c2 : Nat) (a b : List Int) (w : World) (ha : Ints w w.heap.size A1 a) (hb : Ints w w.heap.size A2 b) (hl : a.length ≤ 4611686018427387904) :
    Calls Try.prog 13 #[.slice A1 a.length c1, .slice A2 b.length c2] w (SamePost w (a == b)) := by
  by_cases hlen : a.length = b.length
  · have hne : ((a.length : Int) != (b.length : Int)) = false := by simp [hlen]
    have HL := Lib.hid hlen
    clear hlen
    go_enter Try.func13, Try.ntmps13
    go_wp2_with fail
    go_loopw [5] (fun i wr => ∃ k : Nat, k ≤ a.length ∧ i = .int .i64 k ∧ a.take k = b.take k ∧ Below w.heap.size w wr) (fun i _ => a.length - (intOf i).toNat)
    case atStart => exact ⟨0, Nat.zero_le _, rfl, rfl, Below.refl _ _⟩
    case round =>
      obtain ⟨k, hk, rfl, htake, hbel⟩ := hrel
      have HT := Lib.hid htake
      clear htake
      by_cases hlt : k < a.length
      · obtain ⟨b1, o1, rfl, hb1, hc1⟩ := ha (by omega)
        obtain ⟨b2, o2, rfl, hb2, hc2⟩ := hb (by have := HL.out; omega)
        have hlt2 : k < b.length := by have := HL.out; omega
        have hcell1 := (hbel.cell (p := ⟨b1, o1 + k, none⟩) hb1).trans (hc1 k hlt)
        have hcell2 := (hbel.cell (p := ⟨b2, o2 + k, none⟩) hb2).trans (hc2 k hlt2)
        obtain ⟨x, hx⟩ : ∃ x, x = a.getD k 0 := ⟨_, rfl⟩
        obtain ⟨y, hy⟩ : ∃ y, y = b.getD k 0 := ⟨_, rfl⟩
        rw [← hx] at hcell1
        rw [← hy] at hcell2
        have HX := Lib.hid hx
        have HY := Lib.hid hy
        clear hx hy hc1 hc2
        have hkl : (k : Int) < (a.length : Int) := by omega
        have hkl2 : (k : Int) < (b.length : Int) := by omega
        by_cases hxy : x = y
        · have hq : (x != y) = false := by simp [hxy]
          have HE := Lib.hid hxy
          clear hxy
          go_wp2_with fail
          go_quiet (fail)
          go_wp2_with fail
          go_roundw
          case rel => exact ⟨k + 1, by omega, by go_num, take_eq_succ HT.out hlt hlt2 (by rw [← HX.out, ← HY.out, HE.out]), below_drewN' hbel _⟩
          case measure => simp [intOf]; omega
        · have hq : (x != y) = true := by simp [hxy]
          go_wp2_with fail
          go_quiet (fail)
          go_wp2_with fail
          go_ret
          refine ⟨ret_bool ?_, below_drewN' hbel _⟩
          have : a ≠ b := fun e => hxy (by rw [HX.out, HY.out, e])
          simp [this]
      · obtain rfl : k = a.length := by omega
        go_wp2_with fail
        go_ret
        refine ⟨ret_bool ?_, hbel⟩
        have := HT.out
        rw [List.take_length, HL.out, List.take_length] at this
        simp [this]
  · have hne : ((a.length : Int) != (b.length : Int)) = true := by simp; omega
    go_enter Try.func13, Try.ntmps13
    go_wp2_with fail
    go_ret
    refine ⟨ret_bool ?_, Below.refl _ _⟩
    have : a ≠ b := fun e => hlen (by rw [e])
    simp [this]

/-! ### code -/
def icells (x : Int × Int) : List Value := [.int .i64 x.1, .int .i64 x.2, .int .i64 0, .int .i64 0, .int .i64 0, .string ⟨#[]⟩, .int .i64 0, .slice none 0 0, .int .i64 0, .string ⟨#[]⟩, .int .i64 0, .slice none 0 0, .slice none 0 0, .int .i64 0, .int .i64 0, .int .i64 0, .int .i64 0, .slice none 0 0, .slice none 0 0, .bool false]
theorem Try.info39b : (Try.prog.info? 39).map (fun i => (i.zero, i.size, i.bytes)) = some (some zeroInstr, 20, 256) := by kernel_rfl
/-- A slice of instructions of the call's own. -/
def OwnI (w : World) (B : Nat) (A : Option Addr) (cap : Nat) (I : Fl.Rt) : Prop := w.ownsRow B 39 20 (.slice A I.length cap) I.length (I.flatMap icells)
def forms (to : Int) (l : List Int) : Fl.Rt := l.map fun o => (o, if o == 4 || o == 5 then to else 0)

theorem icells_len (y : Int × Int) : (icells y).length = 20 := rfl
theorem flat_len : ∀ I : Fl.Rt, (I.flatMap icells).length = I.length * 20
  | [] => rfl
  | y :: I => by rw [List.flatMap_cons, List.length_append, icells_len, flat_len I, List.length_cons]; omega
theorem ownI_shape {w : World} {B : Nat} {v : Value} {n : Nat} {I : Fl.Rt} {xs : List Value} (h : w.ownsRow B 39 20 v n xs) (hn : n = I.length) (hx : xs = I.flatMap icells) : ∃ A cap, v = .slice A I.length cap ∧ OwnI w B A cap I := by
  subst hn; subst hx
  rcases h.2 with ⟨hv, h0⟩ | ⟨g, cap', cur, hv, hb, rest⟩
  · refine ⟨none, 0, by rw [hv, h0], ?_⟩
    have : I = [] := List.eq_nil_of_length_eq_zero h0
    subst this
    exact World.ownsRow_nil _ _ _ _
  · refine ⟨some ⟨g, 0, none⟩, cap', hv, ?_⟩
    subst hv
    exact h
/-- An instruction's cells, as one array behind a name. -/
def iarr (y : Int × Int) : Array Value := (icells y).toArray
theorem icells_one (y : Int × Int) : ∀ u ∈ icells y, u.oneCell' = true := by
  intro u hu
  simp only [icells, List.mem_cons, List.not_mem_nil, or_false] at hu
  rcases hu with rfl | rfl | rfl | rfl | rfl | rfl | rfl | rfl | rfl | rfl | rfl | rfl | rfl | rfl | rfl | rfl | rfl | rfl | rfl | rfl <;> rfl

theorem iarr_size (y : Int × Int) : (iarr y).size = 20 := rfl
theorem iarr_list (y : Int × Int) : (iarr y).toList = icells y := rfl
theorem iarr_one (y : Int × Int) : (iarr y).all (·.oneCell') = true := by
  rw [Array.all_eq_true_iff_forall_mem]
  intro v hv
  exact icells_one y v (by rw [← iarr_list]; simpa using hv)
theorem iarr_op (y : Int × Int) : (iarr y)[0]? = some (.int .i64 y.1) := rfl
theorem iarr_ar (y : Int × Int) : (iarr y)[1]? = some (.int .i64 y.2) := rfl
theorem iarr_set (y : Int × Int) (a : Int) : (iarr y).setIfInBounds 1 (.int .i64 a) = iarr (y.1, a) := rfl
theorem built39 (x : Int) : Try.prog.built 39 [(0, .int .i64 x)] = some (iarr (x, 0)) := by kernel_rfl
theorem bslice1 (y : Int × Int) (w : World) : (Instr.buildSlice 22 1 #[(0, .agg (iarr y))]).run Try.prog w = .ok (.slice (some ⟨w.heap.size, 0, none⟩) 1 1) (w.alloc (.cells (iarr y) 39)) := by kernel_rfl

/-- A struct literal whose cells are known as one array. -/
theorem wpList_built {P : Program} {ops : Array Oper} {rest : List Oper} {o : Oper} {a : Act} {w : World} {Q : Exit → Act → World → Prop} (hw : Region.wanted o (yielded ops a.tmps) = true) (t : TypeId) (parts : Array (Nat × Operand)) (ho : o.op = .build t parts) (cs : Array Value)
    (vals : List (Nat × Value)) (hv : parts.toList.map (fun (i, x) => (i, a.eval x)) = vals) (hb' : P.built t vals = some cs) (h : wpList P ops Q rest (a.put o.dst (.agg cs)) w) : wpList P ops Q (o :: rest) a w :=
  wpList_step fun K hK => by
    have hb : P.built t (parts.map fun (i, x) => (i, a.eval x)).toList = some cs := by rw [Array.toList_map, hv, hb']
    rw [if_pos hw]
    refine wp_build t parts ho (by rw [hb]; rfl) ?_
    rw [hb]
    exact hK _ _ h
/-- 'x := T{..}': a new variable with a struct's value. -/
theorem wpList_put {P : Program} {ops : Array Oper} {rest : List Oper} {o2 o3 : Oper} {a : Act} {w : World} {Q : Exit → Act → World → Prop} (g2 : o2.guard = none) (g3 : o3.guard = none)
    (ty : TypeId) (x : Operand) (d2 : Tmp) (ho2 : o2.op = .alloc ty) (hd2 : o2.dst = some d2) (ho3 : o3.op = .store ty (.tmp d2) x) (hd3 : o3.dst = none)
    (cs : Array Value) (z : Value) (n : Nat) (hi : (P.info? ty).map (fun i => (i.zero, i.size)) = some (some z, n)) (hz : z.cells.size = n) (hcs : cs.size = n) (h1 : cs.all (·.oneCell') = true)
    (he2 : (a.put (some d2) (.pointer (some ⟨w.heap.size, 0, none⟩))).eval (.tmp d2) = .pointer (some ⟨w.heap.size, 0, none⟩))
    (he1 : (a.put (some d2) (.pointer (some ⟨w.heap.size, 0, none⟩))).eval x = .agg cs)
    (h : wpList P ops Q rest (a.put (some d2) (.pointer (some ⟨w.heap.size, 0, none⟩))) (w.alloc (.cells cs ty))) : wpList P ops Q (o2 :: o3 :: rest) a w := by
  obtain ⟨hzero, hsize⟩ := zero_of_info hi
  have key : ∀ K : Act → World → Prop, K (a.put (some d2) (.pointer (some ⟨w.heap.size, 0, none⟩))) (w.alloc (.cells z.cells ty)) → o2.wp P a w K Q := fun K hK => by
    unfold Oper.wp execOp
    rw [ho2]
    simp [go_sem, Instr.alloc, hzero, newVar, newRow]
    rw [hd2]
    exact hK
  refine wpList_plain g2 fun K hK => key K (hK _ _ ?_)
  refine wpList_store_row g3 ty (.tmp d2) x ho3 w.heap.size cs he2 he1 ty z.cells (heap_alloc_last w _) (by rw [hsize, hcs]) (by rw [hz, hcs]) h1 ?_
  rw [hd3, World.setRow_alloc_new]
  exact h
/-- A slice literal of one instruction. -/
theorem wpList_bslice1 {ops : Array Oper} {rest : List Oper} {o : Oper} {a : Act} {w : World} {Q : Exit → Act → World → Prop} (hg : o.guard = none) (x : Operand) (ho : o.op = .buildSlice 22 1 #[(0, x)]) (y : Int × Int) (hx : a.eval x = .agg (iarr y))
    (h : wpList Try.prog ops Q rest (a.put o.dst (.slice (some ⟨w.heap.size, 0, none⟩) 1 1)) (w.alloc (.cells (iarr y) 39))) : wpList Try.prog ops Q (o :: rest) a w :=
  wpList_plain hg fun K hK => by
    have hr := bslice1 y w
    unfold Oper.wp execOp
    rw [ho]
    simp only [List.map_toArray, List.map_cons, List.map_nil, hx, Sem.run_bind, hr, Result.andThen_ok, Sem.run_pure, Oper.upon_value]
    exact hK _ _ h
/-- A whole struct out of the variable that holds it. -/
theorem wpList_loadrow {P : Program} {ops : Array Oper} {rest : List Oper} {o : Oper} {a : Act} {w : World} {Q : Exit → Act → World → Prop} (hgd : o.guard = none) (ty : TypeId) (x : Operand) (ho : o.op = .load ty x)
    (g : Nat) (hx : a.eval x = .pointer (some ⟨g, 0, none⟩)) (t : TypeId) (cs : Array Value) (d : TypeDesc) (hg : w.heap[g]? = some (.cells cs t (0, 0)))
    (hu : P.underlying ty = some d) (hd : (match d with | .struct _ | .array _ _ => true | _ => false) = true) (hi : (P.info? ty).map (·.size) = some cs.size)
    (h : wpList P ops Q rest (a.put o.dst (.agg cs)) w) : wpList P ops Q (o :: rest) a w := wpList_load_row hgd ty x ho g hx t cs _ d hg hu hd hi h

theorem cells_new (w : World) (cs : List Value) (t : TypeId) (b : Nat) (hb : b = w.heap.size) : ∀ j u, cs[j]? = some u → (w.alloc (.cells cs.toArray t)).cell? ((⟨b, 0, none⟩ : Addr).add j) = some u := by
  subst hb
  intro j u hj
  rw [Addr.add_mid, Nat.zero_add, World.cell?_alloc_at _ _ _ _ rfl]
  simpa using hj
theorem keep_block {wr w' : World} {o1 o2 : Obj} {B k : Nat} {A : Option Addr} {cap : Nat} {F : Fl.Rt} (hown : OwnI wr B A cap F) (hg : ((wr.alloc o1).alloc o2).grownBy w' (Value.slice A F.length cap).ownBlock) (hk : k < B) (hkr : k < wr.heap.size) :
    w'.heap[k]? = wr.heap[k]? := by
  rw [hg.block k (by simp; omega) (fun e => by have := (World.ownsRow.lt hown k e.symm).1; omega), Below.heap_alloc _ _ _ (by simp; omega), Below.heap_alloc _ _ _ hkr]
theorem wpList_pushI {P : Program} {w : World} {ops : Array Oper} {rest : List Oper} {o : Oper} {a : Act} {Q : Exit → Act → World → Prop} (hgd : o.guard = none) (s x : Operand) (t : TypeId)
    (ho : o.op = .call { callee := .builtin .append, args := #[s, x], argTypes := #[t, t] })
    (i : TypeInfo) (ht : P.underlying t = some (.slice 39)) (hi : P.info? 39 = some i) (hz : i.zero = some zeroInstr) (hsize : i.size = 20) (hby : i.bytes = 256)
    (B : Nat) (A : Option Addr) (cap : Nat) (I : Fl.Rt) (hs : a.eval s = .slice A I.length cap) (hown : OwnI w B A cap I)
    (ad : Addr) (c : Nat) (y : Int × Int) (hx : a.eval x = .slice (some ad) 1 c) (hcell : ∀ j u, (icells y)[j]? = some u → w.cell? (ad.add j) = some u)
    (hlen : I.length ≤ 1000000000) (hB : B ≤ w.heap.size)
    (h : ∀ A' cap' w', OwnI w' B A' cap' (I ++ [y]) → w.grownBy w' (Value.slice A I.length cap).ownBlock → wpList P ops Q rest (a.put o.dst (.slice A' (I ++ [y]).length cap')) w') : wpList P ops Q (o :: rest) a w := by
  refine wpList_append_own w hgd s x t ho B 39 i zeroInstr 20 256 ht hi hz hsize hby rfl (by decide) _ I.length _ hs hown ad 1 c (icells y) hx (by rw [icells_len]) hcell (icells_one y)
    (by unfold maxLen; omega) (by omega) hB ?_
  intro v' w' ho' hg _
  obtain ⟨A', cap', hv, ho''⟩ := ownI_shape (I := I ++ [y]) ho' (by simp) (by simp)
  rw [hv]
  exact h A' cap' w' ho'' hg

set_option maxHeartbeats 1000000 in
theorem code_any (to : Int) (b off c : Nat) (l : List Int) (w : World) (hl : l.length ≤ 1000000) (hb : b < w.heap.size) (hc : ∀ k, k < l.length → w.cell? ⟨b, off + k, none⟩ = some (.int .i64 (l.getD k 0))) :
    Calls Try.prog 21 #[.int .i64 to, .slice (some ⟨b, off, none⟩) l.length c] w fun e w' =>
      ∃ A cap, e = .returned (.agg #[.string ⟨#[]⟩, .int .i64 0, .int .i64 0, .slice A l.length cap]) ∧ OwnI w' w.heap.size A cap (forms to l) ∧ Below w.heap.size w w' := by
  obtain ⟨i0, hi, hz0, hz1, hz2⟩ := info_parts Try.info39b
  go_enter Try.func21, Try.ntmps21
  go_wp2_with fail
  go_loopw [6] (fun i wr => ∃ (k : Nat) (A : Option Addr) (cap : Nat), k ≤ l.length ∧ i = .int .i64 k ∧
      wr.heap[w.heap.size]? = some (.cells #[.string ⟨#[]⟩, .int .i64 0, .int .i64 0, .slice none 0 0] 24 (0, 0)) ∧
      wr.heap[w.heap.size + 1]? = some (.cells #[.string ⟨#[]⟩, .int .i64 0, .int .i64 0, .slice A (forms to (l.take k)).length cap] 24 (0, 0)) ∧
      OwnI wr (w.heap.size + 2) A cap (forms to (l.take k)) ∧ Below w.heap.size w wr) (fun i _ => l.length - (intOf i).toNat)
  case atStart =>
    refine ⟨0, none, 0, Nat.zero_le _, rfl, ?_, ?_, World.ownsRow_nil _ _ _ _, ?_⟩
    · rw [Below.heap_alloc _ _ _ (by simp), heap_alloc_new]
    · have := heap_alloc_new (w.alloc (.cells #[.string ⟨#[]⟩, .int .i64 0, .int .i64 0, .slice none 0 0] 24)) (.cells #[.string ⟨#[]⟩, .int .i64 0, .int .i64 0, .slice none 0 0] 24)
      rw [World.size_alloc] at this
      exact this
    · exact ((Below.refl _ _).alloc (Nat.le_refl _) _).alloc (by simp) _
  case round =>
    obtain ⟨k, A, cap, hk, rfl, hres, hvar, hown, hbel⟩ := hrel
    by_cases hlt : k < l.length
    · obtain ⟨x, hx⟩ : ∃ x, x = l.getD k 0 := ⟨_, rfl⟩
      have hcell := (hbel.cell (p := ⟨b, off + k, none⟩) hb).trans (hc k hlt)
      rw [← hx] at hcell
      have hbr : b < wr.heap.size := Nat.lt_of_lt_of_le hb hbel.size
      have hvl : w.heap.size + 1 < wr.heap.size := (Array.getElem?_eq_some_iff.1 hvar).1
      have hstep : forms to (l.take (k + 1)) = forms to (l.take k) ++ [(x, if x == 4 || x == 5 then to else 0)] := by
        rw [List.take_succ_eq_append_getElem hlt, forms, List.map_append]
        rw [hx, List.getD_eq_getElem?_getD, List.getElem?_eq_getElem hlt]
        rfl
      have hfl : (forms to (l.take k)).length ≤ 1000000 := by simp [forms]; omega
      have HS := Lib.hid hstep
      have HX := Lib.hid hx
      clear hx hstep
      generalize hF : forms to (l.take k) = F at *
      clear hF
      have c3 : wr.cell? ⟨w.heap.size + 1, 3, none⟩ = some (.slice A F.length cap) := by rw [cell_of_row _ _ _ _ _ _ hvar]; rfl
      have f3 : wr.frozen? ⟨w.heap.size + 1, 3, none⟩ = false := frozen_of_row _ _ _ _ _ hvar
      have HV := Lib.hid hvar
      have HR := Lib.hid hres
      clear hvar hres
      by_cases h4 : (x == 4) = true
      · have ha0 := iarr_op (x, 0)
        have ha1 := iarr_ar (x, 0)
        have has := iarr_set (x, 0) to
        simp only at ha0 ha1 has
        go_wp2_with (first
          | ((with_reducible refine at_op (d := some 18) (op := .build 39 #[(0, .tmp 17)]) ?_); refine wpList_built rfl 39 _ rfl (iarr (x, 0)) _ rfl (built39 x) ?_)
          | ((with_reducible refine at_op (d := some 7) (op := .alloc 39) ?_); refine wpList_put rfl rfl 39 (.tmp 18) 7 rfl rfl rfl rfl (iarr (x, 0)) _ 20 Try.info39 rfl rfl (iarr_one _) rfl rfl ?_)
          | ((with_reducible refine at_op (d := some 35) (op := .load 39 (.tmp 7)) ?_); refine wpList_loadrow rfl 39 (.tmp 7) rfl wr.heap.size rfl 39 (iarr (x, to)) _ (heap_alloc_last wr _) Try.underlying39 rfl Try.size39 ?_)
          | ((with_reducible refine at_op (d := some 36) (op := .buildSlice 22 1 #[(0, .tmp 35)]) ?_); refine wpList_bslice1 rfl (.tmp 35) rfl (x, to) rfl ?_)
          | (at_builtin; refine wpList_pushI rfl (.tmp 34) (.tmp 36) 22 rfl i0 Try.underlying22 hi hz0 hz1 hz2 (w.heap.size + 2) A cap F rfl (World.ownsRow.alloc (World.ownsRow.alloc hown _) _) ⟨_, 0, none⟩ 1 (x, to) rfl ?_ ?_ ?_ ?_))
        · exact cells_new _ _ _ _ (by first | rfl | simp)
        · omega
        · simp; omega
        intro A' cap' w' hown' hg
        have hV' := (keep_block hown hg (Nat.lt_succ_self _) hvl).trans HV.out
        have hR' := (keep_block hown hg (by omega) (by omega)).trans HR.out
        have c3' : w'.cell? ⟨w.heap.size + 1, 3, none⟩ = some (.slice A F.length cap) := by rw [cell_of_row _ _ _ _ _ _ hV']; rfl
        have f3' : w'.frozen? ⟨w.heap.size + 1, 3, none⟩ = false := frozen_of_row _ _ _ _ _ hV'
        have hbel' : Below w.heap.size w w' := ((hbel.alloc (by omega) _).alloc (by simp; omega) _).grown hg (by simp; omega) (fun k hk => by have := (World.ownsRow.lt hown k hk).1; omega)
        have hV2 := heap_setCell_same w' (w.heap.size + 1) 3 _ 24 (.slice A' (F ++ [(x, to)]).length cap') hV'
        have hR2 := (Below.heap_setCell w' ⟨w.heap.size + 1, 3, none⟩ (.slice A' (F ++ [(x, to)]).length cap') w.heap.size (by simp)).trans hR'
        have HV2 := Lib.hid hV2
        have HR2 := Lib.hid hR2
        have hown2 : OwnI (w'.setCell ⟨w.heap.size + 1, 3, none⟩ (.slice A' (F ++ [(x, to)]).length cap')) (w.heap.size + 2) A' cap' (F ++ [(x, to)]) := ownsRow_setCell_below hown' (by simp) _
        have hbel2 : Below w.heap.size w (w'.setCell ⟨w.heap.size + 1, 3, none⟩ (.slice A' (F ++ [(x, to)]).length cap')) := hbel'.setCell (by simp) _
        have HO2 := Lib.hid hown2
        have HB2 := Lib.hid hbel2
        clear hV' hR' hV2 hR2 hown' hg hown2 hbel2 hbel' hown hcell ha0 ha1 has
        go_wp2_with fail
        go_roundw
        case rel =>
          have e : (if x == 4 || x == 5 then to else 0) = to := by simp [*]
          have HS' := HS.out
          rw [e] at HS'
          rw [List.length_append, List.length_singleton] at HV2 HR2 HO2 HB2
          exact ⟨k + 1, A', cap', by omega, by go_num, HR2.out, by rw [HS', List.length_append, List.length_singleton]; exact HV2.out, by rw [HS']; exact HO2.out, HB2.out⟩
        case measure => simp [intOf]; omega
      · have h4' : (x == 4) = false := by simpa using h4
        clear h4
        by_cases h5 : (x == 5) = true
        · have ha0 := iarr_op (x, 0)
          have ha1 := iarr_ar (x, 0)
          have has := iarr_set (x, 0) to
          simp only at ha0 ha1 has
          go_wp2_with (first
            | ((with_reducible refine at_op (d := some 18) (op := .build 39 #[(0, .tmp 17)]) ?_); refine wpList_built rfl 39 _ rfl (iarr (x, 0)) _ rfl (built39 x) ?_)
            | ((with_reducible refine at_op (d := some 7) (op := .alloc 39) ?_); refine wpList_put rfl rfl 39 (.tmp 18) 7 rfl rfl rfl rfl (iarr (x, 0)) _ 20 Try.info39 rfl rfl (iarr_one _) rfl rfl ?_)
            | ((with_reducible refine at_op (d := some 35) (op := .load 39 (.tmp 7)) ?_); refine wpList_loadrow rfl 39 (.tmp 7) rfl wr.heap.size rfl 39 (iarr (x, to)) _ (heap_alloc_last wr _) Try.underlying39 rfl Try.size39 ?_)
            | ((with_reducible refine at_op (d := some 36) (op := .buildSlice 22 1 #[(0, .tmp 35)]) ?_); refine wpList_bslice1 rfl (.tmp 35) rfl (x, to) rfl ?_)
            | (at_builtin; refine wpList_pushI rfl (.tmp 34) (.tmp 36) 22 rfl i0 Try.underlying22 hi hz0 hz1 hz2 (w.heap.size + 2) A cap F rfl (World.ownsRow.alloc (World.ownsRow.alloc hown _) _) ⟨_, 0, none⟩ 1 (x, to) rfl ?_ ?_ ?_ ?_))
          · exact cells_new _ _ _ _ (by first | rfl | simp)
          · omega
          · simp; omega
          intro A' cap' w' hown' hg
          have hV' := (keep_block hown hg (Nat.lt_succ_self _) hvl).trans HV.out
          have hR' := (keep_block hown hg (by omega) (by omega)).trans HR.out
          have c3' : w'.cell? ⟨w.heap.size + 1, 3, none⟩ = some (.slice A F.length cap) := by rw [cell_of_row _ _ _ _ _ _ hV']; rfl
          have f3' : w'.frozen? ⟨w.heap.size + 1, 3, none⟩ = false := frozen_of_row _ _ _ _ _ hV'
          have hbel' : Below w.heap.size w w' := ((hbel.alloc (by omega) _).alloc (by simp; omega) _).grown hg (by simp; omega) (fun k hk => by have := (World.ownsRow.lt hown k hk).1; omega)
          have hV2 := heap_setCell_same w' (w.heap.size + 1) 3 _ 24 (.slice A' (F ++ [(x, to)]).length cap') hV'
          have hR2 := (Below.heap_setCell w' ⟨w.heap.size + 1, 3, none⟩ (.slice A' (F ++ [(x, to)]).length cap') w.heap.size (by simp)).trans hR'
          have HV2 := Lib.hid hV2
          have HR2 := Lib.hid hR2
          have hown2 : OwnI (w'.setCell ⟨w.heap.size + 1, 3, none⟩ (.slice A' (F ++ [(x, to)]).length cap')) (w.heap.size + 2) A' cap' (F ++ [(x, to)]) := ownsRow_setCell_below hown' (by simp) _
          have hbel2 : Below w.heap.size w (w'.setCell ⟨w.heap.size + 1, 3, none⟩ (.slice A' (F ++ [(x, to)]).length cap')) := hbel'.setCell (by simp) _
          have HO2 := Lib.hid hown2
          have HB2 := Lib.hid hbel2
          clear hV' hR' hV2 hR2 hown' hg hown2 hbel2 hbel' hown hcell ha0 ha1 has
          go_wp2_with fail
          go_roundw
          case rel =>
            have e : (if x == 4 || x == 5 then to else 0) = to := by simp [*]
            have HS' := HS.out
            rw [e] at HS'
            rw [List.length_append, List.length_singleton] at HV2 HR2 HO2 HB2
            exact ⟨k + 1, A', cap', by omega, by go_num, HR2.out, by rw [HS', List.length_append, List.length_singleton]; exact HV2.out, by rw [HS']; exact HO2.out, HB2.out⟩
          case measure => simp [intOf]; omega
        · have h5' : (x == 5) = false := by simpa using h5
          clear h5
          have ha0 := iarr_op (x, 0)
          have ha1 := iarr_ar (x, 0)
          have has := iarr_set (x, 0) to
          simp only at ha0 ha1 has
          go_wp2_with (first
            | ((with_reducible refine at_op (d := some 18) (op := .build 39 #[(0, .tmp 17)]) ?_); refine wpList_built rfl 39 _ rfl (iarr (x, 0)) _ rfl (built39 x) ?_)
            | ((with_reducible refine at_op (d := some 7) (op := .alloc 39) ?_); refine wpList_put rfl rfl 39 (.tmp 18) 7 rfl rfl rfl rfl (iarr (x, 0)) _ 20 Try.info39 rfl rfl (iarr_one _) rfl rfl ?_)
            | ((with_reducible refine at_op (d := some 35) (op := .load 39 (.tmp 7)) ?_); refine wpList_loadrow rfl 39 (.tmp 7) rfl wr.heap.size rfl 39 (iarr (x, 0)) _ (heap_alloc_last wr _) Try.underlying39 rfl Try.size39 ?_)
            | ((with_reducible refine at_op (d := some 36) (op := .buildSlice 22 1 #[(0, .tmp 35)]) ?_); refine wpList_bslice1 rfl (.tmp 35) rfl (x, 0) rfl ?_)
            | (at_builtin; refine wpList_pushI rfl (.tmp 34) (.tmp 36) 22 rfl i0 Try.underlying22 hi hz0 hz1 hz2 (w.heap.size + 2) A cap F rfl (World.ownsRow.alloc (World.ownsRow.alloc hown _) _) ⟨_, 0, none⟩ 1 (x, 0) rfl ?_ ?_ ?_ ?_))
          · exact cells_new _ _ _ _ (by first | rfl | simp)
          · omega
          · simp; omega
          intro A' cap' w' hown' hg
          have hV' := (keep_block hown hg (Nat.lt_succ_self _) hvl).trans HV.out
          have hR' := (keep_block hown hg (by omega) (by omega)).trans HR.out
          have c3' : w'.cell? ⟨w.heap.size + 1, 3, none⟩ = some (.slice A F.length cap) := by rw [cell_of_row _ _ _ _ _ _ hV']; rfl
          have f3' : w'.frozen? ⟨w.heap.size + 1, 3, none⟩ = false := frozen_of_row _ _ _ _ _ hV'
          have hbel' : Below w.heap.size w w' := ((hbel.alloc (by omega) _).alloc (by simp; omega) _).grown hg (by simp; omega) (fun k hk => by have := (World.ownsRow.lt hown k hk).1; omega)
          have hV2 := heap_setCell_same w' (w.heap.size + 1) 3 _ 24 (.slice A' (F ++ [(x, 0)]).length cap') hV'
          have hR2 := (Below.heap_setCell w' ⟨w.heap.size + 1, 3, none⟩ (.slice A' (F ++ [(x, 0)]).length cap') w.heap.size (by simp)).trans hR'
          have HV2 := Lib.hid hV2
          have HR2 := Lib.hid hR2
          have hown2 : OwnI (w'.setCell ⟨w.heap.size + 1, 3, none⟩ (.slice A' (F ++ [(x, 0)]).length cap')) (w.heap.size + 2) A' cap' (F ++ [(x, 0)]) := ownsRow_setCell_below hown' (by simp) _
          have hbel2 : Below w.heap.size w (w'.setCell ⟨w.heap.size + 1, 3, none⟩ (.slice A' (F ++ [(x, 0)]).length cap')) := hbel'.setCell (by simp) _
          have HO2 := Lib.hid hown2
          have HB2 := Lib.hid hbel2
          clear hV' hR' hV2 hR2 hown' hg hown2 hbel2 hbel' hown hcell ha0 ha1 has
          go_wp2_with fail
          go_roundw
          case rel =>
            have e : (if x == 4 || x == 5 then to else 0) = 0 := by simp [*]
            have HS' := HS.out
            rw [e] at HS'
            rw [List.length_append, List.length_singleton] at HV2 HR2 HO2 HB2
            exact ⟨k + 1, A', cap', by omega, by go_num, HR2.out, by rw [HS', List.length_append, List.length_singleton]; exact HV2.out, by rw [HS']; exact HO2.out, HB2.out⟩
          case measure => simp [intOf]; omega
    · obtain rfl : k = l.length := by omega
      rw [List.take_length] at hvar hown
      have hfl : (forms to l).length = l.length := by simp [forms]
      rw [hfl] at hvar
      have c0 : wr.cell? ⟨w.heap.size + 1, 0, none⟩ = some (.string ⟨#[]⟩) := by rw [cell_of_row _ _ _ _ _ _ hvar]; rfl
      have c1 : wr.cell? ⟨w.heap.size + 1, 1, none⟩ = some (.int .i64 0) := by rw [cell_of_row _ _ _ _ _ _ hvar]; rfl
      have c2 : wr.cell? ⟨w.heap.size + 1, 2, none⟩ = some (.int .i64 0) := by rw [cell_of_row _ _ _ _ _ _ hvar]; rfl
      have c3 : wr.cell? ⟨w.heap.size + 1, 3, none⟩ = some (.slice A l.length cap) := by rw [cell_of_row _ _ _ _ _ _ hvar]; rfl
      have d0 : wr.cell? ⟨w.heap.size, 0, none⟩ = some (.string ⟨#[]⟩) := by rw [cell_of_row _ _ _ _ _ _ hres]; rfl
      have d1 : wr.cell? ⟨w.heap.size, 1, none⟩ = some (.int .i64 0) := by rw [cell_of_row _ _ _ _ _ _ hres]; rfl
      have d2 : wr.cell? ⟨w.heap.size, 2, none⟩ = some (.int .i64 0) := by rw [cell_of_row _ _ _ _ _ _ hres]; rfl
      have d3 : wr.cell? ⟨w.heap.size, 3, none⟩ = some (.slice none 0 0) := by rw [cell_of_row _ _ _ _ _ _ hres]; rfl
      have f0 : ∀ j, wr.frozen? ⟨w.heap.size, j, none⟩ = false := fun j => frozen_of_row _ _ _ _ _ hres
      have HF := Lib.hid hfl
      clear hvar hres hfl
      go_wp2_with fail
      refine bodyPost_ret (v := .agg #[.string ⟨#[]⟩, .int .i64 0, .int .i64 0, .slice A l.length cap]) (by simp [results, Try.results21, go_sem, d0, d1, d2, d3]) rfl ⟨A, cap, rfl, ?_, ?_⟩
      · have h1 := ownsRow_setCell_below (ownsRow_setCell_below (ownsRow_setCell_below (ownsRow_setCell_below hown (a := ⟨w.heap.size, 0, none⟩) (by simp) (.string ⟨#[]⟩)) (a := ⟨w.heap.size, 1, none⟩) (by simp) (.int .i64 0)) (a := ⟨w.heap.size, 2, none⟩) (by simp) (.int .i64 0)) (a := ⟨w.heap.size, 3, none⟩) (by simp) (.slice A l.length cap)
        refine ⟨h1.1, ?_⟩
        rcases h1.2 with h2 | ⟨g, cap', cur, hv, hb', rest⟩
        · exact .inl h2
        · exact .inr ⟨g, cap', cur, hv, by omega, rest⟩
      · exact (((hbel.setCell (p := ⟨w.heap.size, 0, none⟩) (Nat.le_refl _) _).setCell (p := ⟨w.heap.size, 1, none⟩) (Nat.le_refl _) _).setCell (p := ⟨w.heap.size, 2, none⟩) (Nat.le_refl _) _).setCell (p := ⟨w.heap.size, 3, none⟩) (Nat.le_refl _) _
end Go.Proofs.Ytnbaofkgakgpgaa
