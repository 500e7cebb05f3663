/- FlowWalks returns true for every routine and every list of decisions, and leaves both as they were. No condition. -/
import Derived.Test.YtnbaofkgakgpgaaStroll
import Derived.Test.YtnbaofkgakgpgaaOpen
import Derived.Deep.Grids
namespace Go.Proofs.Ytnbaofkgakgpgaa
open Go.ChangeShapes Go.WideShapes Go.ChangeAt Go.RowKit

theorem bools_of_trod {H : Type} {enc : TypeId × Value → H} {w : World} {r : Reach} {b0 : Nat} {v : Value} {d : DataW H} {ps : List MemPlace} (hv : Value.okWide Try.prog w r b0 44 v) (h : DataW.Trod enc Try.prog w 0 (fun _ => true) true 44 v d ps) :
    ∃ A n c, v = .slice A n c ∧ Bools w w.heap.size A n := by
  obtain ⟨A, n, c, rfl⟩ := okWide_slice Try.underlying44 hv
  refine ⟨A, n, c, rfl, fun hn => ?_⟩
  obtain ⟨fuel, hf⟩ := h
  rcases Go.Deep.open_bools Try.underlying44 Try.underlying4 (by kernel_rfl) hf with ⟨e, _⟩ | ⟨a, len, cap, B, e, _, hlc, _, _, hx⟩
  · simp [Value.cells] at e
    omega
  · simp [Value.cells] at e
    obtain ⟨rfl, rfl, rfl⟩ := e
    have h0 := hx 0 (by omega)
    obtain ⟨b, off, spot⟩ := a
    have hs := World.cell?_spot h0
    simp [Addr.add] at hs
    subst hs
    refine ⟨b, off, rfl, World.block_lt_of_cell? w _ h0, fun k hk => ⟨B k, ?_⟩⟩
    have := hx k (by omega)
    rwa [Addr.add_mid] at this

set_option maxRecDepth 100000 in
theorem flowWalks_lifted (os : Os) (started : os.Started) (H : Type) (enc : TypeId × Value → H) :
    ReturnsInHanded {} Try.checked os 7 .any (Rows.flowWalksSpec.pre6 enc Try.prog Try.f7 Rows.flowWalksRow.domain false) (Rows.flowWalksSpec.post enc Try.prog Try.f7 false true false false) := by
  refine returnsInHanded_of_change_sized (C := Try.checked) own started (by kernel_rfl) Try.func7
    (ChangeSpec.witness6 (enc := enc) (C := Try.checked) false ⟨#[], #[.agg #[.string ⟨#[]⟩, .int .i64 0, .int .i64 0, .slice none 0 0], .slice none 0 0], []⟩ 8 (by kernel_rfl) (by kernel_rfl) (by kernel_rfl) (by kernel_rfl)) ?_
  intro W base args ds gs before hval0 hW _ hsz0 _
  have hsz : (DataW.weightsEach Try.prog (Try.f7.params.toList ++ Rows.flowWalksSpec.plain.varTypes Try.prog) (ds ++ gs)).all (· ≤ reachBytes) = true := hsz0
  clear hsz0
  have hval : ∀ (j : Nat) t v, Try.f7.params[j]? = some t → args[j]? = some v → Value.okWide Try.prog W .any base t v := hval0
  have hW' := hW
  obtain ⟨p, q, hA0, hV, rfl, _, _⟩ := hW
  have hA : DataW.TrodAll enc Try.prog W 0 (fun _ => true) true Try.f7.params.toList args.toList ds p := hA0
  rw [Try.params7] at hA hval hsz
  obtain ⟨v0, v1, d0, d1, p0, p1, rfl, rfl, rfl, h0, h1⟩ := trodAll_two hA
  obtain ⟨rfl, rfl⟩ := trodVars_none hV
  clear hA0 hval0
  simp only [List.append_nil] at hW'
  have hlt : ∀ x ∈ p0 ++ p1, x.block < W.heap.size := fun x hx => by simpa using hW'.lt x hx
  have hw0 : (d0.weights Try.prog 24).all (· ≤ reachBytes) = true := by
    refine List.all_eq_true.2 fun n hn => List.all_eq_true.1 hsz n (DataW.weights_mem_each (j := 0) (t := 24) (d := d0) rfl rfl n hn)
  obtain ⟨s, pp, qq, A, cap, I, rfl, hcode, hbound⟩ := code_of_trod (hval 0 24 v0 rfl rfl) h0 hw0
  obtain ⟨A1, n1, c1, rfl, hbools⟩ := bools_of_trod (hval 1 44 v1 rfl rfl) h1
  refine (walks_any s pp qq A cap I A1 n1 c1 W hbound hcode (fun _ => hbools)).mono fun e W' ⟨he, hb⟩ => ?_
  subst he
  exact ⟨_, rfl, _, _, _, [], _, [], hW', trodAll_mk1 (shut_bool Try.underlying4 _), trodAll_mk2 (Below.trod laidOut (by kernel_rfl) (of_decide_eq_true (by kernel_rfl)) h0 hb (fun x hx => hlt x (List.mem_append_left _ hx))) (Below.trod laidOut (by kernel_rfl) (of_decide_eq_true (by kernel_rfl)) h1 hb (fun x hx => hlt x (List.mem_append_right _ hx))), rfl, hb.frame _, fun h => by cases h⟩

theorem flowWalks_holds : Rows.FlowWalksSaid :=
  OpenClaim.holds_of_wide 7 Try.f7 rfl rfl rfl rfl rfl rfl rfl ⟨rfl, rfl, rfl, rfl, rfl⟩ rfl rfl rfl rfl rfl (by kernel_rfl) Try.func7 (by kernel_rfl)
    (of_decide_eq_true (by kernel_rfl)) (by unfold Func.isWrapper; first | (rw [if_pos (by decide +kernel)]; kernel_rfl) | (rw [if_neg (by decide +kernel)]; exact ⟨rfl, rfl⟩))
    (fun os started H enc _ => flowWalks_lifted os started H enc)
#print axioms flowWalks_holds
end Go.Proofs.Ytnbaofkgakgpgaa
