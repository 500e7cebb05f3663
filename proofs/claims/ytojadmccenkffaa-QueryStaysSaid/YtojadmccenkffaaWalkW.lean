/- The walk of awake. -/
import Derived.Test.YtojadmccenkffaaWalkS
import Derived.Test.YtojadmccenkffaaWalkH
import Derived.Test.YtojadmccenkffaaWalkK
import Derived.Test.YtojadmccenkffaaHeld
namespace Go.Proofs.Ytojadmccenkffaa
open Go.RowKit

theorem rd_lit {α : Type} {c : α → List Value} {sz : Nat} (w : World) (cs : Array Value) (T : TypeId) {l : List α} (C : Cells c sz) (h : cs.toList = l.flatMap c) : RdL c sz (w.alloc (.cells cs T)) (w.alloc (.cells cs T)).heap.size (some ⟨w.heap.size, 0, none⟩) l := fun _ => by
  refine ⟨w.heap.size, 0, rfl, by simp, fun k hk j v hj => ?_⟩
  have hjl : j < sz := by
    rw [← C.len l[k]]
    exact (List.getElem?_eq_some_iff.1 hj).1
  rw [Nat.zero_add]
  have e1 : (w.alloc (.cells cs T)).cell? ⟨w.heap.size, k * sz + j, none⟩ = cs[k * sz + j]? := World.cell?_alloc_at _ T w.heap.size (k * sz + j) rfl
  rw [e1, ← Array.getElem?_toList, h, flat_get C l k j hk hjl, hj]
theorem stays_at (A : Option Addr) (n cap : Nat) (l : List Qr.Rc) (bg en : Int) (L : List Qr.St) (N : Nat) (w : World) (hr : RdL rcs 6 w w.heap.size A l) (hn : l.length = n) (hl : n ≤ 1000) (hok : ∀ r ∈ l, RcOk r) (hL : Qr.stays l bg en = L) (hN : L.length = N) :
    Calls Try.prog 18 #[.slice A n cap, .int .i64 bg, .int .i64 en] w fun e w' => ∃ A cap, e = .returned (.slice A N cap) ∧ OwnL scs 42 5 w' w.heap.size A cap L ∧ Below w.heap.size w w' := by
  subst hn; subst hL; subst hN; exact stays_any A cap l bg en w hr hl hok
set_option maxRecDepth 100000 in
set_option maxHeartbeats 4000000 in
theorem awake_any (w : World) : Calls Try.prog 9 #[] w (TruePost w) := by
  have BW := Lib.hid (Below.refl w.heap.size w)
  go_enter Try.func9, Try.ntmps9
  go_wp2_with fail
  refine (rec_any 1 7 1 _).mono ?_
  rintro e w1 ⟨rfl, hb1⟩
  have BWn := Lib.hid (BW.out.trans (hb1.mono BW.out.size))
  clear BW
  have BW := BWn
  clear BWn
  clear hb1
  go_wp2_with fail
  refine (rec_any 2 7 1 _).mono ?_
  rintro e w2 ⟨rfl, hb2⟩
  have BWn := Lib.hid (BW.out.trans (hb2.mono BW.out.size))
  clear BW
  have BW := BWn
  clear BWn
  clear hb2
  go_wp2_with fail
  refine (rec_any 3 8 1 _).mono ?_
  rintro e w3 ⟨rfl, hb3⟩
  have BWn := Lib.hid (BW.out.trans (hb3.mono BW.out.size))
  clear BW
  have BW := BWn
  clear BWn
  clear hb3
  go_wp2_with fail
  refine (rec_any 5 7 2 _).mono ?_
  rintro e w4 ⟨rfl, hb4⟩
  have BWn := Lib.hid (BW.out.trans (hb4.mono BW.out.size))
  clear BW
  have BW := BWn
  clear BWn
  clear hb4
  go_wp2_with fail
  refine (rec_any 6 8 2 _).mono ?_
  rintro e w5 ⟨rfl, hb5⟩
  have BWn := Lib.hid (BW.out.trans (hb5.mono BW.out.size))
  clear BW
  have BW := BWn
  clear BWn
  clear hb5
  go_wp2_with fail
  refine (rec_any 7 7 2 _).mono ?_
  rintro e w6 ⟨rfl, hb6⟩
  have BWn := Lib.hid (BW.out.trans (hb6.mono BW.out.size))
  clear BW
  have BW := BWn
  clear BWn
  clear hb6
  go_wp2_with fail
  obtain ⟨w7, hw7⟩ : ∃ W, W = w6.alloc (.cells #[.int .i64 1, .int .i64 0, .int .i64 1, .int .i64 7, .int .i64 0, .int .i64 0, .int .i64 2, .int .i64 0, .int .i64 1, .int .i64 7, .int .i64 0, .int .i64 0, .int .i64 3, .int .i64 0, .int .i64 1, .int .i64 8, .int .i64 0, .int .i64 0, .int .i64 5, .int .i64 0, .int .i64 2, .int .i64 7, .int .i64 0, .int .i64 0, .int .i64 6, .int .i64 0, .int .i64 2, .int .i64 8, .int .i64 0, .int .i64 0, .int .i64 7, .int .i64 0, .int .i64 2, .int .i64 7, .int .i64 0, .int .i64 0] 34) := ⟨_, rfl⟩
  rw [← hw7]
  have hbl : Below w6.heap.size w6 w7 := by rw [hw7]; exact below_box _ _
  obtain ⟨gFL, hgFL⟩ : ∃ g, g = w6.heap.size := ⟨_, rfl⟩
  rw [← hgFL]
  have FL : Hid (∀ W, Below w7.heap.size w7 W → RdL rcs 6 W W.heap.size (some ⟨gFL, 0, none⟩) [⟨1, 0, 1, 7, 0, 0⟩, ⟨2, 0, 1, 7, 0, 0⟩, ⟨3, 0, 1, 8, 0, 0⟩, ⟨5, 0, 2, 7, 0, 0⟩, ⟨6, 0, 2, 8, 0, 0⟩, ⟨7, 0, 2, 7, 0, 0⟩]) := Lib.hid fun W h => RdL.after (by rw [hw7, hgFL]; exact rd_lit _ _ _ rcs_ok rfl) h
  have BWn := Lib.hid (BW.out.trans (hbl.mono BW.out.size))
  clear BW
  have BW := BWn
  clear BWn
  clear hbl
  have BFL := Lib.hid (Below.refl w7.heap.size w7)
  clear hw7 hgFL
  refine (stays_at _ 6 6 [⟨1, 0, 1, 7, 0, 0⟩, ⟨2, 0, 1, 7, 0, 0⟩, ⟨3, 0, 1, 8, 0, 0⟩, ⟨5, 0, 2, 7, 0, 0⟩, ⟨6, 0, 2, 8, 0, 0⟩, ⟨7, 0, 2, 7, 0, 0⟩] 1 2 [⟨0, 7, 0, 1, 5⟩, ⟨0, 7, 0, 2, 7⟩, ⟨0, 8, 0, 3, 6⟩] 3 w7 (FL.out _ BFL.out) rfl (by decide) (by simp [RcOk, I64]) rfl rfl).mono ?_
  rintro e w8 ⟨As, cs, rfl, hos, hb8⟩
  have BWn := Lib.hid (BW.out.trans (hb8.mono BW.out.size))
  clear BW
  have BW := BWn
  clear BWn
  have BFLn := Lib.hid (BFL.out.trans (hb8.mono BFL.out.size))
  clear BFL
  have BFL := BFLn
  clear BFLn
  have FS : Hid (∀ W, Below w8.heap.size w8 W → RdL scs 5 W W.heap.size As [⟨0, 7, 0, 1, 5⟩, ⟨0, 7, 0, 2, 7⟩, ⟨0, 8, 0, 3, 6⟩]) := Lib.hid fun W h => (hos.rd scs_ok).after h
  have BFS := Lib.hid (Below.refl w8.heap.size w8)
  clear hos hb8
  go_wp2_with fail
  obtain ⟨w9, hw9⟩ : ∃ W, W = w8.alloc (.cells #[.int .i64 0, .int .i64 7, .int .i64 0, .int .i64 1, .int .i64 5, .int .i64 0, .int .i64 7, .int .i64 0, .int .i64 2, .int .i64 7, .int .i64 0, .int .i64 8, .int .i64 0, .int .i64 3, .int .i64 6] 42) := ⟨_, rfl⟩
  rw [← hw9]
  have hbl : Below w8.heap.size w8 w9 := by rw [hw9]; exact below_box _ _
  obtain ⟨gFW, hgFW⟩ : ∃ g, g = w8.heap.size := ⟨_, rfl⟩
  rw [← hgFW]
  have FW : Hid (∀ W, Below w9.heap.size w9 W → RdL scs 5 W W.heap.size (some ⟨gFW, 0, none⟩) [⟨0, 7, 0, 1, 5⟩, ⟨0, 7, 0, 2, 7⟩, ⟨0, 8, 0, 3, 6⟩]) := Lib.hid fun W h => RdL.after (by rw [hw9, hgFW]; exact rd_lit _ _ _ scs_ok rfl) h
  have BWn := Lib.hid (BW.out.trans (hbl.mono BW.out.size))
  clear BW
  have BW := BWn
  clear BWn
  have BFLn := Lib.hid (BFL.out.trans (hbl.mono BFL.out.size))
  clear BFL
  have BFL := BFLn
  clear BFLn
  have BFSn := Lib.hid (BFS.out.trans (hbl.mono BFS.out.size))
  clear BFS
  have BFS := BFSn
  clear BFSn
  clear hbl
  have BFW := Lib.hid (Below.refl w9.heap.size w9)
  have hsz9 : w9.heap.size = gFW + 1 := by rw [hw9, hgFW]; simp
  clear hw9 hgFW
  obtain ⟨w10, hw10⟩ : ∃ W, W = w9.alloc (.cells #[.int .i64 0, .int .i64 1000000001, .int .i64 (-1), .int .i64 (-1), .int .i64 (-1), .int .i64 0] 24) := ⟨_, rfl⟩
  rw [← hw10]
  have hbl : Below w9.heap.size w9 w10 := by rw [hw10]; exact below_box _ _
  obtain ⟨gq, hgq⟩ : ∃ g, g = gFW + 1 := ⟨_, rfl⟩
  rw [← hgq]
  have FQ : Hid (∀ W, Below w10.heap.size w10 W → W.cell? ⟨gq, 0, none⟩ = some (.int .i64 0) ∧ W.cell? ⟨gq, 1, none⟩ = some (.int .i64 1000000001) ∧ W.cell? ⟨gq, 2, none⟩ = some (.int .i64 (-1)) ∧ W.cell? ⟨gq, 3, none⟩ = some (.int .i64 (-1)) ∧ W.cell? ⟨gq, 4, none⟩ = some (.int .i64 (-1)) ∧ W.cell? ⟨gq, 5, none⟩ = some (.int .i64 0)) := Lib.hid fun W h => ⟨(h.cell (p := ⟨gq, 0, none⟩) (by rw [hw10, hgq]; simp [hsz9])).trans (by rw [hw10]; exact World.cell?_alloc_at _ 24 _ 0 (by rw [hgq, hsz9])), (h.cell (p := ⟨gq, 1, none⟩) (by rw [hw10, hgq]; simp [hsz9])).trans (by rw [hw10]; exact World.cell?_alloc_at _ 24 _ 1 (by rw [hgq, hsz9])), (h.cell (p := ⟨gq, 2, none⟩) (by rw [hw10, hgq]; simp [hsz9])).trans (by rw [hw10]; exact World.cell?_alloc_at _ 24 _ 2 (by rw [hgq, hsz9])), (h.cell (p := ⟨gq, 3, none⟩) (by rw [hw10, hgq]; simp [hsz9])).trans (by rw [hw10]; exact World.cell?_alloc_at _ 24 _ 3 (by rw [hgq, hsz9])), (h.cell (p := ⟨gq, 4, none⟩) (by rw [hw10, hgq]; simp [hsz9])).trans (by rw [hw10]; exact World.cell?_alloc_at _ 24 _ 4 (by rw [hgq, hsz9])), (h.cell (p := ⟨gq, 5, none⟩) (by rw [hw10, hgq]; simp [hsz9])).trans (by rw [hw10]; exact World.cell?_alloc_at _ 24 _ 5 (by rw [hgq, hsz9]))⟩
  have BWn := Lib.hid (BW.out.trans (hbl.mono BW.out.size))
  clear BW
  have BW := BWn
  clear BWn
  have BFLn := Lib.hid (BFL.out.trans (hbl.mono BFL.out.size))
  clear BFL
  have BFL := BFLn
  clear BFLn
  have BFSn := Lib.hid (BFS.out.trans (hbl.mono BFS.out.size))
  clear BFS
  have BFS := BFSn
  clear BFSn
  have BFWn := Lib.hid (BFW.out.trans (hbl.mono BFW.out.size))
  clear BFW
  have BFW := BFWn
  clear BFWn
  clear hbl
  have BFQ := Lib.hid (Below.refl w10.heap.size w10)
  clear hw10 hgq hsz9
  refine (rec_any 1 7 3 _).mono ?_
  rintro e w11 ⟨rfl, hb11⟩
  have BWn := Lib.hid (BW.out.trans (hb11.mono BW.out.size))
  clear BW
  have BW := BWn
  clear BWn
  have BFLn := Lib.hid (BFL.out.trans (hb11.mono BFL.out.size))
  clear BFL
  have BFL := BFLn
  clear BFLn
  have BFSn := Lib.hid (BFS.out.trans (hb11.mono BFS.out.size))
  clear BFS
  have BFS := BFSn
  clear BFSn
  have BFWn := Lib.hid (BFW.out.trans (hb11.mono BFW.out.size))
  clear BFW
  have BFW := BFWn
  clear BFWn
  have BFQn := Lib.hid (BFQ.out.trans (hb11.mono BFQ.out.size))
  clear BFQ
  have BFQ := BFQn
  clear BFQn
  clear hb11
  go_wp2_with fail
  refine (rec_any 4 7 3 _).mono ?_
  rintro e w12 ⟨rfl, hb12⟩
  have BWn := Lib.hid (BW.out.trans (hb12.mono BW.out.size))
  clear BW
  have BW := BWn
  clear BWn
  have BFLn := Lib.hid (BFL.out.trans (hb12.mono BFL.out.size))
  clear BFL
  have BFL := BFLn
  clear BFLn
  have BFSn := Lib.hid (BFS.out.trans (hb12.mono BFS.out.size))
  clear BFS
  have BFS := BFSn
  clear BFSn
  have BFWn := Lib.hid (BFW.out.trans (hb12.mono BFW.out.size))
  clear BFW
  have BFW := BFWn
  clear BFWn
  have BFQn := Lib.hid (BFQ.out.trans (hb12.mono BFQ.out.size))
  clear BFQ
  have BFQ := BFQn
  clear BFQn
  clear hb12
  go_wp2_with fail
  refine (rec_any 9 7 3 _).mono ?_
  rintro e w13 ⟨rfl, hb13⟩
  have BWn := Lib.hid (BW.out.trans (hb13.mono BW.out.size))
  clear BW
  have BW := BWn
  clear BWn
  have BFLn := Lib.hid (BFL.out.trans (hb13.mono BFL.out.size))
  clear BFL
  have BFL := BFLn
  clear BFLn
  have BFSn := Lib.hid (BFS.out.trans (hb13.mono BFS.out.size))
  clear BFS
  have BFS := BFSn
  clear BFSn
  have BFWn := Lib.hid (BFW.out.trans (hb13.mono BFW.out.size))
  clear BFW
  have BFW := BFWn
  clear BFWn
  have BFQn := Lib.hid (BFQ.out.trans (hb13.mono BFQ.out.size))
  clear BFQ
  have BFQ := BFQn
  clear BFQn
  clear hb13
  go_wp2_with fail
  obtain ⟨w14, hw14⟩ : ∃ W, W = w13.alloc (.cells #[.int .i64 1, .int .i64 0, .int .i64 3, .int .i64 7, .int .i64 0, .int .i64 0, .int .i64 4, .int .i64 0, .int .i64 3, .int .i64 7, .int .i64 0, .int .i64 0, .int .i64 9, .int .i64 0, .int .i64 3, .int .i64 7, .int .i64 0, .int .i64 0] 34) := ⟨_, rfl⟩
  rw [← hw14]
  have hbl : Below w13.heap.size w13 w14 := by rw [hw14]; exact below_box _ _
  obtain ⟨gFT, hgFT⟩ : ∃ g, g = w13.heap.size := ⟨_, rfl⟩
  rw [← hgFT]
  have FT : Hid (∀ W, Below w14.heap.size w14 W → RdL rcs 6 W W.heap.size (some ⟨gFT, 0, none⟩) [⟨1, 0, 3, 7, 0, 0⟩, ⟨4, 0, 3, 7, 0, 0⟩, ⟨9, 0, 3, 7, 0, 0⟩]) := Lib.hid fun W h => RdL.after (by rw [hw14, hgFT]; exact rd_lit _ _ _ rcs_ok rfl) h
  have BWn := Lib.hid (BW.out.trans (hbl.mono BW.out.size))
  clear BW
  have BW := BWn
  clear BWn
  have BFLn := Lib.hid (BFL.out.trans (hbl.mono BFL.out.size))
  clear BFL
  have BFL := BFLn
  clear BFLn
  have BFSn := Lib.hid (BFS.out.trans (hbl.mono BFS.out.size))
  clear BFS
  have BFS := BFSn
  clear BFSn
  have BFWn := Lib.hid (BFW.out.trans (hbl.mono BFW.out.size))
  clear BFW
  have BFW := BFWn
  clear BFWn
  have BFQn := Lib.hid (BFQ.out.trans (hbl.mono BFQ.out.size))
  clear BFQ
  have BFQ := BFQn
  clear BFQn
  clear hbl
  have BFT := Lib.hid (Below.refl w14.heap.size w14)
  clear hw14 hgFT
  refine (stays_at _ 3 3 [⟨1, 0, 3, 7, 0, 0⟩, ⟨4, 0, 3, 7, 0, 0⟩, ⟨9, 0, 3, 7, 0, 0⟩] 3 3 [⟨0, 7, 0, 1, 4⟩] 1 w14 (FT.out _ BFT.out) rfl (by decide) (by simp [RcOk, I64]) rfl rfl).mono ?_
  rintro e w15 ⟨At, ct, rfl, hot, hb15⟩
  have BWn := Lib.hid (BW.out.trans (hb15.mono BW.out.size))
  clear BW
  have BW := BWn
  clear BWn
  have BFLn := Lib.hid (BFL.out.trans (hb15.mono BFL.out.size))
  clear BFL
  have BFL := BFLn
  clear BFLn
  have BFSn := Lib.hid (BFS.out.trans (hb15.mono BFS.out.size))
  clear BFS
  have BFS := BFSn
  clear BFSn
  have BFWn := Lib.hid (BFW.out.trans (hb15.mono BFW.out.size))
  clear BFW
  have BFW := BFWn
  clear BFWn
  have BFQn := Lib.hid (BFQ.out.trans (hb15.mono BFQ.out.size))
  clear BFQ
  have BFQ := BFQn
  clear BFQn
  have BFTn := Lib.hid (BFT.out.trans (hb15.mono BFT.out.size))
  clear BFT
  have BFT := BFTn
  clear BFTn
  have FU : Hid (∀ W, Below w15.heap.size w15 W → RdL scs 5 W W.heap.size At [⟨0, 7, 0, 1, 4⟩]) := Lib.hid fun W h => (hot.rd scs_ok).after h
  have BFU := Lib.hid (Below.refl w15.heap.size w15)
  clear hot hb15
  go_wp2_with fail
  refine (sameStays_any As (some ⟨gFW, 0, none⟩) 3 cs 3 [⟨0, 7, 0, 1, 5⟩, ⟨0, 7, 0, 2, 7⟩, ⟨0, 8, 0, 3, 6⟩] w15 (FS.out _ BFS.out) (FW.out _ BFW.out) rfl (by decide)).mono ?_
  rintro e w16 ⟨rfl, hb16⟩
  have BWn := Lib.hid (BW.out.trans (hb16.mono BW.out.size))
  clear BW
  have BW := BWn
  clear BWn
  have BFLn := Lib.hid (BFL.out.trans (hb16.mono BFL.out.size))
  clear BFL
  have BFL := BFLn
  clear BFLn
  have BFSn := Lib.hid (BFS.out.trans (hb16.mono BFS.out.size))
  clear BFS
  have BFS := BFSn
  clear BFSn
  have BFWn := Lib.hid (BFW.out.trans (hb16.mono BFW.out.size))
  clear BFW
  have BFW := BFWn
  clear BFWn
  have BFQn := Lib.hid (BFQ.out.trans (hb16.mono BFQ.out.size))
  clear BFQ
  have BFQ := BFQn
  clear BFQn
  have BFTn := Lib.hid (BFT.out.trans (hb16.mono BFT.out.size))
  clear BFT
  have BFT := BFTn
  clear BFTn
  have BFUn := Lib.hid (BFU.out.trans (hb16.mono BFU.out.size))
  clear BFU
  have BFU := BFUn
  clear BFUn
  clear hb16
  go_wp2_with fail
  refine (busy_any (some ⟨gFW, 0, none⟩) 3 3 [⟨0, 7, 0, 1, 5⟩, ⟨0, 7, 0, 2, 7⟩, ⟨0, 8, 0, 3, 6⟩] (-1) (-1) w16 (FW.out _ BFW.out) rfl (by decide) 12 rfl).mono ?_
  rintro e w17 ⟨rfl, hb17⟩
  have BWn := Lib.hid (BW.out.trans (hb17.mono BW.out.size))
  clear BW
  have BW := BWn
  clear BWn
  have BFLn := Lib.hid (BFL.out.trans (hb17.mono BFL.out.size))
  clear BFL
  have BFL := BFLn
  clear BFLn
  have BFSn := Lib.hid (BFS.out.trans (hb17.mono BFS.out.size))
  clear BFS
  have BFS := BFSn
  clear BFSn
  have BFWn := Lib.hid (BFW.out.trans (hb17.mono BFW.out.size))
  clear BFW
  have BFW := BFWn
  clear BFWn
  have BFQn := Lib.hid (BFQ.out.trans (hb17.mono BFQ.out.size))
  clear BFQ
  have BFQ := BFQn
  clear BFQn
  have BFTn := Lib.hid (BFT.out.trans (hb17.mono BFT.out.size))
  clear BFT
  have BFT := BFTn
  clear BFTn
  have BFUn := Lib.hid (BFU.out.trans (hb17.mono BFU.out.size))
  clear BFU
  have BFU := BFUn
  clear BFUn
  clear hb17
  go_wp2_with fail
  refine (most_any (some ⟨gFW, 0, none⟩) 3 3 [⟨0, 7, 0, 1, 5⟩, ⟨0, 7, 0, 2, 7⟩, ⟨0, 8, 0, 3, 6⟩] 0 0 w17 (FW.out _ BFW.out) rfl (by decide) 3 rfl).mono ?_
  rintro e w18 ⟨rfl, hb18⟩
  have BWn := Lib.hid (BW.out.trans (hb18.mono BW.out.size))
  clear BW
  have BW := BWn
  clear BWn
  have BFLn := Lib.hid (BFL.out.trans (hb18.mono BFL.out.size))
  clear BFL
  have BFL := BFLn
  clear BFLn
  have BFSn := Lib.hid (BFS.out.trans (hb18.mono BFS.out.size))
  clear BFS
  have BFS := BFSn
  clear BFSn
  have BFWn := Lib.hid (BFW.out.trans (hb18.mono BFW.out.size))
  clear BFW
  have BFW := BFWn
  clear BFWn
  have BFQn := Lib.hid (BFQ.out.trans (hb18.mono BFQ.out.size))
  clear BFQ
  have BFQ := BFQn
  clear BFQn
  have BFTn := Lib.hid (BFT.out.trans (hb18.mono BFT.out.size))
  clear BFT
  have BFT := BFTn
  clear BFTn
  have BFUn := Lib.hid (BFU.out.trans (hb18.mono BFU.out.size))
  clear BFU
  have BFU := BFUn
  clear BFUn
  clear hb18
  go_wp2_with fail
  obtain ⟨w19, hw19⟩ : ∃ W, W = w18.alloc (.cells #[.int .i64 0, .int .i64 0, .int .i64 0, .int .i64 5, .int .i64 5] 42) := ⟨_, rfl⟩
  rw [← hw19]
  have hbl : Below w18.heap.size w18 w19 := by rw [hw19]; exact below_box _ _
  obtain ⟨gFX, hgFX⟩ : ∃ g, g = w18.heap.size := ⟨_, rfl⟩
  rw [← hgFX]
  have FX : Hid (∀ W, Below w19.heap.size w19 W → RdL scs 5 W W.heap.size (some ⟨gFX, 0, none⟩) [⟨0, 0, 0, 5, 5⟩]) := Lib.hid fun W h => RdL.after (by rw [hw19, hgFX]; exact rd_lit _ _ _ scs_ok rfl) h
  have BWn := Lib.hid (BW.out.trans (hbl.mono BW.out.size))
  clear BW
  have BW := BWn
  clear BWn
  have BFLn := Lib.hid (BFL.out.trans (hbl.mono BFL.out.size))
  clear BFL
  have BFL := BFLn
  clear BFLn
  have BFSn := Lib.hid (BFS.out.trans (hbl.mono BFS.out.size))
  clear BFS
  have BFS := BFSn
  clear BFSn
  have BFWn := Lib.hid (BFW.out.trans (hbl.mono BFW.out.size))
  clear BFW
  have BFW := BFWn
  clear BFWn
  have BFQn := Lib.hid (BFQ.out.trans (hbl.mono BFQ.out.size))
  clear BFQ
  have BFQ := BFQn
  clear BFQn
  have BFTn := Lib.hid (BFT.out.trans (hbl.mono BFT.out.size))
  clear BFT
  have BFT := BFTn
  clear BFTn
  have BFUn := Lib.hid (BFU.out.trans (hbl.mono BFU.out.size))
  clear BFU
  have BFU := BFUn
  clear BFUn
  clear hbl
  have BFX := Lib.hid (Below.refl w19.heap.size w19)
  clear hw19 hgFX
  refine (most_any (some ⟨gFX, 0, none⟩) 1 1 [⟨0, 0, 0, 5, 5⟩] (-1) (-1) w19 (FX.out _ BFX.out) rfl (by decide) 0 rfl).mono ?_
  rintro e w20 ⟨rfl, hb20⟩
  have BWn := Lib.hid (BW.out.trans (hb20.mono BW.out.size))
  clear BW
  have BW := BWn
  clear BWn
  have BFLn := Lib.hid (BFL.out.trans (hb20.mono BFL.out.size))
  clear BFL
  have BFL := BFLn
  clear BFLn
  have BFSn := Lib.hid (BFS.out.trans (hb20.mono BFS.out.size))
  clear BFS
  have BFS := BFSn
  clear BFSn
  have BFWn := Lib.hid (BFW.out.trans (hb20.mono BFW.out.size))
  clear BFW
  have BFW := BFWn
  clear BFWn
  have BFQn := Lib.hid (BFQ.out.trans (hb20.mono BFQ.out.size))
  clear BFQ
  have BFQ := BFQn
  clear BFQn
  have BFTn := Lib.hid (BFT.out.trans (hb20.mono BFT.out.size))
  clear BFT
  have BFT := BFTn
  clear BFTn
  have BFUn := Lib.hid (BFU.out.trans (hb20.mono BFU.out.size))
  clear BFU
  have BFU := BFUn
  clear BFUn
  have BFXn := Lib.hid (BFX.out.trans (hb20.mono BFX.out.size))
  clear BFX
  have BFX := BFXn
  clear BFXn
  clear hb20
  go_wp2_with fail
  obtain ⟨w21, hw21⟩ : ∃ W, W = w20.alloc (.cells #[.int .i64 0, .int .i64 7, .int .i64 0, .int .i64 1, .int .i64 4] 42) := ⟨_, rfl⟩
  rw [← hw21]
  have hbl : Below w20.heap.size w20 w21 := by rw [hw21]; exact below_box _ _
  obtain ⟨gFY, hgFY⟩ : ∃ g, g = w20.heap.size := ⟨_, rfl⟩
  rw [← hgFY]
  have FY : Hid (∀ W, Below w21.heap.size w21 W → RdL scs 5 W W.heap.size (some ⟨gFY, 0, none⟩) [⟨0, 7, 0, 1, 4⟩]) := Lib.hid fun W h => RdL.after (by rw [hw21, hgFY]; exact rd_lit _ _ _ scs_ok rfl) h
  have BWn := Lib.hid (BW.out.trans (hbl.mono BW.out.size))
  clear BW
  have BW := BWn
  clear BWn
  have BFLn := Lib.hid (BFL.out.trans (hbl.mono BFL.out.size))
  clear BFL
  have BFL := BFLn
  clear BFLn
  have BFSn := Lib.hid (BFS.out.trans (hbl.mono BFS.out.size))
  clear BFS
  have BFS := BFSn
  clear BFSn
  have BFWn := Lib.hid (BFW.out.trans (hbl.mono BFW.out.size))
  clear BFW
  have BFW := BFWn
  clear BFWn
  have BFQn := Lib.hid (BFQ.out.trans (hbl.mono BFQ.out.size))
  clear BFQ
  have BFQ := BFQn
  clear BFQn
  have BFTn := Lib.hid (BFT.out.trans (hbl.mono BFT.out.size))
  clear BFT
  have BFT := BFTn
  clear BFTn
  have BFUn := Lib.hid (BFU.out.trans (hbl.mono BFU.out.size))
  clear BFU
  have BFU := BFUn
  clear BFUn
  have BFXn := Lib.hid (BFX.out.trans (hbl.mono BFX.out.size))
  clear BFX
  have BFX := BFXn
  clear BFXn
  clear hbl
  have BFY := Lib.hid (Below.refl w21.heap.size w21)
  clear hw21 hgFY
  refine (sameStays_any At (some ⟨gFY, 0, none⟩) 1 ct 1 [⟨0, 7, 0, 1, 4⟩] w21 (FU.out _ BFU.out) (FY.out _ BFY.out) rfl (by decide)).mono ?_
  rintro e w22 ⟨rfl, hb22⟩
  have BWn := Lib.hid (BW.out.trans (hb22.mono BW.out.size))
  clear BW
  have BW := BWn
  clear BWn
  have BFLn := Lib.hid (BFL.out.trans (hb22.mono BFL.out.size))
  clear BFL
  have BFL := BFLn
  clear BFLn
  have BFSn := Lib.hid (BFS.out.trans (hb22.mono BFS.out.size))
  clear BFS
  have BFS := BFSn
  clear BFSn
  have BFWn := Lib.hid (BFW.out.trans (hb22.mono BFW.out.size))
  clear BFW
  have BFW := BFWn
  clear BFWn
  have BFQn := Lib.hid (BFQ.out.trans (hb22.mono BFQ.out.size))
  clear BFQ
  have BFQ := BFQn
  clear BFQn
  have BFTn := Lib.hid (BFT.out.trans (hb22.mono BFT.out.size))
  clear BFT
  have BFT := BFTn
  clear BFTn
  have BFUn := Lib.hid (BFU.out.trans (hb22.mono BFU.out.size))
  clear BFU
  have BFU := BFUn
  clear BFUn
  have BFXn := Lib.hid (BFX.out.trans (hb22.mono BFX.out.size))
  clear BFX
  have BFX := BFXn
  clear BFXn
  have BFYn := Lib.hid (BFY.out.trans (hb22.mono BFY.out.size))
  clear BFY
  have BFY := BFYn
  clear BFYn
  clear hb22
  have hq0 := FQ.out _ BFQ.out
  obtain ⟨q0, q1, q2, q3, q4, q5⟩ := hq0
  clear FS BFS FW BFW FT BFT FU BFU FX BFX FY BFY
  go_wp2_with fail
  obtain ⟨w23, hw23⟩ : ∃ W, W = w22.alloc (.cells #[.int .i64 0, .int .i64 1000000001, .int .i64 (-1), .int .i64 8, .int .i64 (-1), .int .i64 0] 24) := ⟨_, rfl⟩
  rw [← hw23]
  have hbl : Below w22.heap.size w22 w23 := by rw [hw23]; exact below_box _ _
  obtain ⟨go, hgo⟩ : ∃ g, g = w22.heap.size := ⟨_, rfl⟩
  rw [← hgo]
  have FO : Hid (∀ W, Below w23.heap.size w23 W → W.cell? ⟨go, 0, none⟩ = some (.int .i64 0) ∧ W.cell? ⟨go, 1, none⟩ = some (.int .i64 1000000001) ∧ W.cell? ⟨go, 2, none⟩ = some (.int .i64 (-1)) ∧ W.cell? ⟨go, 3, none⟩ = some (.int .i64 8) ∧ W.cell? ⟨go, 4, none⟩ = some (.int .i64 (-1)) ∧ W.cell? ⟨go, 5, none⟩ = some (.int .i64 0)) := Lib.hid fun W h => ⟨(h.cell (p := ⟨go, 0, none⟩) (by rw [hw23, hgo]; simp)).trans (by rw [hw23]; exact World.cell?_alloc_at _ 24 _ 0 hgo), (h.cell (p := ⟨go, 1, none⟩) (by rw [hw23, hgo]; simp)).trans (by rw [hw23]; exact World.cell?_alloc_at _ 24 _ 1 hgo), (h.cell (p := ⟨go, 2, none⟩) (by rw [hw23, hgo]; simp)).trans (by rw [hw23]; exact World.cell?_alloc_at _ 24 _ 2 hgo), (h.cell (p := ⟨go, 3, none⟩) (by rw [hw23, hgo]; simp)).trans (by rw [hw23]; exact World.cell?_alloc_at _ 24 _ 3 hgo), (h.cell (p := ⟨go, 4, none⟩) (by rw [hw23, hgo]; simp)).trans (by rw [hw23]; exact World.cell?_alloc_at _ 24 _ 4 hgo), (h.cell (p := ⟨go, 5, none⟩) (by rw [hw23, hgo]; simp)).trans (by rw [hw23]; exact World.cell?_alloc_at _ 24 _ 5 hgo)⟩
  have BWn := Lib.hid (BW.out.trans (hbl.mono BW.out.size))
  clear BW
  have BW := BWn
  clear BWn
  have BFLn := Lib.hid (BFL.out.trans (hbl.mono BFL.out.size))
  clear BFL
  have BFL := BFLn
  clear BFLn
  have BFQn := Lib.hid (BFQ.out.trans (hbl.mono BFQ.out.size))
  clear BFQ
  have BFQ := BFQn
  clear BFQn
  clear hbl
  have HS : Hid (∀ W, Below w23.heap.size w23 W → W.cell? ⟨gq, 0, none⟩ = some (.int .i64 0) ∧ W.cell? ⟨gq, 1, none⟩ = some (.int .i64 1000000001) ∧ W.cell? ⟨gq, 2, none⟩ = some (.int .i64 (-1)) ∧ W.cell? ⟨gq, 3, none⟩ = some (.int .i64 (-1)) ∧ W.cell? ⟨gq, 4, none⟩ = some (.int .i64 (-1)) ∧ W.cell? ⟨gq, 5, none⟩ = some (.int .i64 0) ∧ W.cell? ⟨go, 0, none⟩ = some (.int .i64 0) ∧ W.cell? ⟨go, 1, none⟩ = some (.int .i64 1000000001) ∧ W.cell? ⟨go, 2, none⟩ = some (.int .i64 (-1)) ∧ W.cell? ⟨go, 3, none⟩ = some (.int .i64 8) ∧ W.cell? ⟨go, 4, none⟩ = some (.int .i64 (-1)) ∧ W.cell? ⟨go, 5, none⟩ = some (.int .i64 0) ∧ W.cell? ⟨gFL, 12, none⟩ = some (.int .i64 3) ∧ W.cell? ⟨gFL, 13, none⟩ = some (.int .i64 0) ∧ W.cell? ⟨gFL, 14, none⟩ = some (.int .i64 1) ∧ W.cell? ⟨gFL, 15, none⟩ = some (.int .i64 8) ∧ W.cell? ⟨gFL, 16, none⟩ = some (.int .i64 0) ∧ W.cell? ⟨gFL, 17, none⟩ = some (.int .i64 0) ∧ W.cell? ⟨gFL, 24, none⟩ = some (.int .i64 6) ∧ W.cell? ⟨gFL, 25, none⟩ = some (.int .i64 0) ∧ W.cell? ⟨gFL, 26, none⟩ = some (.int .i64 2) ∧ W.cell? ⟨gFL, 27, none⟩ = some (.int .i64 8) ∧ W.cell? ⟨gFL, 28, none⟩ = some (.int .i64 0) ∧ W.cell? ⟨gFL, 29, none⟩ = some (.int .i64 0)) := Lib.hid fun W h => by
    have h1 := FQ.out W (BFQ.out.trans (h.mono BFQ.out.size))
    have h2 := FO.out W h
    obtain ⟨b, off, hE, _, hc⟩ := FL.out W (BFL.out.trans (h.mono BFL.out.size)) (by decide)
    cases hE
    obtain ⟨x0, x1, x2, x3, x4, x5⟩ := h1
    obtain ⟨y0, y1, y2, y3, y4, y5⟩ := h2
    exact ⟨x0, x1, x2, x3, x4, x5, y0, y1, y2, y3, y4, y5, hc 2 (by decide) 0 _ rfl, hc 2 (by decide) 1 _ rfl, hc 2 (by decide) 2 _ rfl, hc 2 (by decide) 3 _ rfl, hc 2 (by decide) 4 _ rfl, hc 2 (by decide) 5 _ rfl, hc 4 (by decide) 0 _ rfl, hc 4 (by decide) 1 _ rfl, hc 4 (by decide) 2 _ rfl, hc 4 (by decide) 3 _ rfl, hc 4 (by decide) 4 _ rfl, hc 4 (by decide) 5 _ rfl⟩
  have HRL := Lib.hid (fun W (h : Below w23.heap.size w23 W) => FL.out W (BFL.out.trans (h.mono BFL.out.size)))
  clear FO FQ BFQ FL BFL q0 q1 q2 q3 q4 q5 hw23 hgo
  refine wp_region_held_drew (S := fun W => W.cell? ⟨gq, 0, none⟩ = some (.int .i64 0) ∧ W.cell? ⟨gq, 1, none⟩ = some (.int .i64 1000000001) ∧ W.cell? ⟨gq, 2, none⟩ = some (.int .i64 (-1)) ∧ W.cell? ⟨gq, 3, none⟩ = some (.int .i64 (-1)) ∧ W.cell? ⟨gq, 4, none⟩ = some (.int .i64 (-1)) ∧ W.cell? ⟨gq, 5, none⟩ = some (.int .i64 0) ∧ W.cell? ⟨go, 0, none⟩ = some (.int .i64 0) ∧ W.cell? ⟨go, 1, none⟩ = some (.int .i64 1000000001) ∧ W.cell? ⟨go, 2, none⟩ = some (.int .i64 (-1)) ∧ W.cell? ⟨go, 3, none⟩ = some (.int .i64 8) ∧ W.cell? ⟨go, 4, none⟩ = some (.int .i64 (-1)) ∧ W.cell? ⟨go, 5, none⟩ = some (.int .i64 0) ∧ W.cell? ⟨gFL, 12, none⟩ = some (.int .i64 3) ∧ W.cell? ⟨gFL, 13, none⟩ = some (.int .i64 0) ∧ W.cell? ⟨gFL, 14, none⟩ = some (.int .i64 1) ∧ W.cell? ⟨gFL, 15, none⟩ = some (.int .i64 8) ∧ W.cell? ⟨gFL, 16, none⟩ = some (.int .i64 0) ∧ W.cell? ⟨gFL, 17, none⟩ = some (.int .i64 0) ∧ W.cell? ⟨gFL, 24, none⟩ = some (.int .i64 6) ∧ W.cell? ⟨gFL, 25, none⟩ = some (.int .i64 0) ∧ W.cell? ⟨gFL, 26, none⟩ = some (.int .i64 2) ∧ W.cell? ⟨gFL, 27, none⟩ = some (.int .i64 8) ∧ W.cell? ⟨gFL, 28, none⟩ = some (.int .i64 0) ∧ W.cell? ⟨gFL, 29, none⟩ = some (.int .i64 0)) (by kernel_rfl) (HS.out _ (Below.refl _ _).drew) (fun hHeld => ?_)
  refine wpAnyH_take (i := 0) (v := ?_) at0 (by kernel_rfl) (by kernel_rfl) (by kernel_rfl) (fun _ _ _ h => h) (Or.inl ⟨by rfl, ?_⟩) (by assumption) ?_
  rotate_left
  · (intro w hSw; (try dsimp only at hSw); go_simp; first | done | with_reducible rfl)
  (try simp only [Act.put, List.setIfInBounds_toArray, List.set_cons_zero, List.set_cons_succ])
  refine wpAnyH_take (i := 1) (v := ?_) (atS <| at0) (by kernel_rfl) (by kernel_rfl) (by kernel_rfl) (fun _ _ _ h => h) (Or.inl ⟨by rfl, ?_⟩) (by assumption) ?_
  rotate_left
  · (intro w hSw; (try dsimp only at hSw); go_simp; first | done | with_reducible rfl)
  (try simp only [Act.put, List.setIfInBounds_toArray, List.set_cons_zero, List.set_cons_succ])
  refine wpAnyH_ready (rs := [2]) (by kernel_rfl) (by simp) ?_
  refine AllReadyH.cons (atS <| atS <| at0) (fun K hK => ?_) AllReadyH.nil
  go_simp
  go_at_call 15
  refine (count_any 0 1000000001 (-1) (-1) (-1) 0 (some ⟨gFL, 0, none⟩) 6 6 [⟨1, 0, 1, 7, 0, 0⟩, ⟨2, 0, 1, 7, 0, 0⟩, ⟨3, 0, 1, 8, 0, 0⟩, ⟨5, 0, 2, 7, 0, 0⟩, ⟨6, 0, 2, 8, 0, 0⟩, ⟨7, 0, 2, 7, 0, 0⟩] _ (HRL.out _ (Below.refl _ _).drew) rfl (by decide) 6 rfl).mono ?_
  rintro e w24 ⟨rfl, hb24⟩
  have hz24 := (Below.refl w23.heap.size w23).drew.trans hb24
  (try go_wp2_with fail)
  refine hK.out _ _ (HS.out _ hz24) (fun hHeld1 => ?_)
  clear hK K hHeld
  have hHeld := hHeld1
  clear hHeld1
  (try simp only [Act.put, List.setIfInBounds_toArray, List.set_cons_zero, List.set_cons_succ])
  refine wpAnyH_take (i := 3) (v := ?_) (atS <| atS <| atS <| at0) (by kernel_rfl) (by kernel_rfl) (by kernel_rfl) (fun _ _ _ h => h) (Or.inl ⟨by rfl, ?_⟩) (by assumption) ?_
  rotate_left
  · (intro w hSw; (try dsimp only at hSw); go_simp; first | done | with_reducible rfl)
  (try simp only [Act.put, List.setIfInBounds_toArray, List.set_cons_zero, List.set_cons_succ])
  refine wpAnyH_take (i := 4) (v := ?_) (atS <| atS <| atS <| atS <| at0) (by kernel_rfl) (by kernel_rfl) (by kernel_rfl) (fun _ _ _ h => h) (Or.inl ⟨by rfl, ?_⟩) (by assumption) ?_
  rotate_left
  · (intro w hSw; (try dsimp only at hSw); go_simp; first | done | with_reducible rfl)
  (try simp only [Act.put, List.setIfInBounds_toArray, List.set_cons_zero, List.set_cons_succ])
  refine wpAnyH_take (i := 5) (v := ?_) (atS <| atS <| atS <| atS <| atS <| at0) (by kernel_rfl) (by kernel_rfl) (by kernel_rfl) (fun _ _ _ h => h) (Or.inl ⟨by rfl, ?_⟩) (by assumption) ?_
  rotate_left
  · (intro w hSw; (try dsimp only at hSw); go_simp; first | done | with_reducible rfl)
  (try simp only [Act.put, List.setIfInBounds_toArray, List.set_cons_zero, List.set_cons_succ])
  refine wpAnyH_take (i := 6) (v := ?_) (atS <| atS <| atS <| atS <| atS <| atS <| at0) (by kernel_rfl) (by kernel_rfl) (by kernel_rfl) (fun _ _ _ h => h) (Or.inl ⟨by rfl, ?_⟩) (by assumption) ?_
  rotate_left
  · (intro w hSw; (try dsimp only at hSw); go_simp; first | done | with_reducible rfl)
  (try simp only [Act.put, List.setIfInBounds_toArray, List.set_cons_zero, List.set_cons_succ])
  refine wpAnyH_take (i := 8) (v := ?_) (atS <| atS <| atS <| atS <| atS <| atS <| atS <| atS <| at0) (by kernel_rfl) (by kernel_rfl) (by kernel_rfl) (fun _ _ _ h => h) (Or.inl ⟨by rfl, ?_⟩) (by assumption) ?_
  rotate_left
  · (intro w hSw; (try dsimp only at hSw); go_simp; first | done | with_reducible rfl)
  (try simp only [Act.put, List.setIfInBounds_toArray, List.set_cons_zero, List.set_cons_succ])
  refine wpAnyH_take (i := 9) (v := ?_) (atS <| atS <| atS <| atS <| atS <| atS <| atS <| atS <| atS <| at0) (by kernel_rfl) (by kernel_rfl) (by kernel_rfl) (fun _ _ _ h => h) (Or.inl ⟨by rfl, ?_⟩) (by assumption) ?_
  rotate_left
  · (intro w hSw; (try dsimp only at hSw); go_simp; first | done | with_reducible rfl)
  (try simp only [Act.put, List.setIfInBounds_toArray, List.set_cons_zero, List.set_cons_succ])
  refine wpAnyH_take (i := 10) (v := ?_) (atS <| atS <| atS <| atS <| atS <| atS <| atS <| atS <| atS <| atS <| at0) (by kernel_rfl) (by kernel_rfl) (by kernel_rfl) (fun _ _ _ h => h) (Or.inl ⟨by rfl, ?_⟩) (by assumption) ?_
  rotate_left
  · (intro w hSw; (try dsimp only at hSw); go_simp; first | done | with_reducible rfl)
  (try simp only [Act.put, List.setIfInBounds_toArray, List.set_cons_zero, List.set_cons_succ])
  refine wpAnyH_take (i := 11) (v := ?_) (atS <| atS <| atS <| atS <| atS <| atS <| atS <| atS <| atS <| atS <| atS <| at0) (by kernel_rfl) (by kernel_rfl) (by kernel_rfl) (fun _ _ _ h => h) (Or.inl ⟨by rfl, ?_⟩) (by assumption) ?_
  rotate_left
  · (intro w hSw; (try dsimp only at hSw); go_simp; first | done | with_reducible rfl)
  (try simp only [Act.put, List.setIfInBounds_toArray, List.set_cons_zero, List.set_cons_succ])
  refine wpAnyH_take (i := 12) (v := ?_) (atS <| atS <| atS <| atS <| atS <| atS <| atS <| atS <| atS <| atS <| atS <| atS <| at0) (by kernel_rfl) (by kernel_rfl) (by kernel_rfl) (fun _ _ _ h => h) (Or.inl ⟨by rfl, ?_⟩) (by assumption) ?_
  rotate_left
  · (intro w hSw; (try dsimp only at hSw); go_simp; first | done | with_reducible rfl)
  (try simp only [Act.put, List.setIfInBounds_toArray, List.set_cons_zero, List.set_cons_succ])
  refine wpAnyH_take (i := 13) (v := ?_) (atS <| atS <| atS <| atS <| atS <| atS <| atS <| atS <| atS <| atS <| atS <| atS <| atS <| at0) (by kernel_rfl) (by kernel_rfl) (by kernel_rfl) (fun _ _ _ h => h) (Or.inl ⟨by rfl, ?_⟩) (by assumption) ?_
  rotate_left
  · (intro w hSw; (try dsimp only at hSw); go_simp; first | done | with_reducible rfl)
  (try simp only [Act.put, List.setIfInBounds_toArray, List.set_cons_zero, List.set_cons_succ])
  refine wpAnyH_ready (rs := [7, 14]) (by kernel_rfl) (by simp) ?_
  refine AllReadyH.cons (atS <| atS <| atS <| atS <| atS <| atS <| atS <| at0) (fun K hK => ?_) (AllReadyH.cons (atS <| atS <| atS <| atS <| atS <| atS <| atS <| atS <| atS <| atS <| atS <| atS <| atS <| atS <| at0) (fun K hK => ?_) AllReadyH.nil)
  · go_simp
    go_at_call 13
    refine (filter_any 0 1000000001 (-1) 8 (-1) 0 (some ⟨gFL, 0, none⟩) 6 6 [⟨1, 0, 1, 7, 0, 0⟩, ⟨2, 0, 1, 7, 0, 0⟩, ⟨3, 0, 1, 8, 0, 0⟩, ⟨5, 0, 2, 7, 0, 0⟩, ⟨6, 0, 2, 8, 0, 0⟩, ⟨7, 0, 2, 7, 0, 0⟩] _ (HRL.out _ hz24) rfl (by decide) [⟨3, 0, 1, 8, 0, 0⟩, ⟨6, 0, 2, 8, 0, 0⟩] rfl 2 rfl).mono ?_
    rintro e w25 ⟨A7, cap7, rfl, ho7, hbw25⟩
    have hzw25 := hz24.trans (hbw25.mono hz24.size)
    have hAw25 := ho7.rd rcs_ok
    (try go_wp2_with fail)
    refine hK.out _ _ (HS.out _ hzw25) (fun hHx => ?_)
    clear hK K hHeld
    have hHeld := hHx
    clear hHx
    (try simp only [Act.put, List.setIfInBounds_toArray, List.set_cons_zero, List.set_cons_succ])
    refine wpAnyH_ready (rs := [14]) (by kernel_rfl) (by simp) ?_
    refine AllReadyH.cons (atS <| atS <| atS <| atS <| atS <| atS <| atS <| atS <| atS <| atS <| atS <| atS <| atS <| atS <| at0) (fun K hK => ?_) AllReadyH.nil
    go_simp
    refine hK.out _ _ (HS.out _ (hzw25.trans ((below_box w25 (.cells #[.int .i64 3, .int .i64 0, .int .i64 1, .int .i64 8, .int .i64 0, .int .i64 0, .int .i64 6, .int .i64 0, .int .i64 2, .int .i64 8, .int .i64 0, .int .i64 0] 34)).mono hzw25.size))) (fun hHeld2 => ?_)
    clear hK K hHeld
    have hHeld := hHeld2
    clear hHeld2
    (try simp only [Act.put, List.setIfInBounds_toArray, List.set_cons_zero, List.set_cons_succ])
    have hA26 := hAw25.after (below_box w25 (.cells #[.int .i64 3, .int .i64 0, .int .i64 1, .int .i64 8, .int .i64 0, .int .i64 0, .int .i64 6, .int .i64 0, .int .i64 2, .int .i64 8, .int .i64 0, .int .i64 0] 34))
    have hN26 := rd_lit w25 #[.int .i64 3, .int .i64 0, .int .i64 1, .int .i64 8, .int .i64 0, .int .i64 0, .int .i64 6, .int .i64 0, .int .i64 2, .int .i64 8, .int .i64 0, .int .i64 0] 34 rcs_ok (l := [⟨3, 0, 1, 8, 0, 0⟩, ⟨6, 0, 2, 8, 0, 0⟩]) rfl
    have hz26 := hzw25.trans ((below_box w25 (.cells #[.int .i64 3, .int .i64 0, .int .i64 1, .int .i64 8, .int .i64 0, .int .i64 0, .int .i64 6, .int .i64 0, .int .i64 2, .int .i64 8, .int .i64 0, .int .i64 0] 34)).mono hzw25.size)
    refine wpAnyH_ready (rs := [15]) (by kernel_rfl) (by simp) ?_
    refine AllReadyH.cons (atS <| atS <| atS <| atS <| atS <| atS <| atS <| atS <| atS <| atS <| atS <| atS <| atS <| atS <| atS <| at0) (fun K hK => ?_) AllReadyH.nil
    go_simp
    go_at_call 12
    refine (sameRecs_any A7 (some ⟨w25.heap.size, 0, none⟩) 2 cap7 2 [⟨3, 0, 1, 8, 0, 0⟩, ⟨6, 0, 2, 8, 0, 0⟩] _ hA26 hN26 rfl (by decide)).mono ?_
    rintro e w27 ⟨rfl, hb27⟩
    have hz27 := hz26.trans (hb27.mono hz26.size)
    (try go_wp2_with fail)
    refine hK.out _ _ (HS.out _ hz27) (fun hHeld3 => ?_)
    clear hK K hHeld
    have hHeld := hHeld3
    clear hHeld3
    (try simp only [Act.put, List.setIfInBounds_toArray, List.set_cons_zero, List.set_cons_succ])
    refine wpAnyH_take (i := 16) (v := ?_) (atS <| atS <| atS <| atS <| atS <| atS <| atS <| atS <| atS <| atS <| atS <| atS <| atS <| atS <| atS <| atS <| at0) (by kernel_rfl) (by kernel_rfl) (by kernel_rfl) (fun _ _ _ h => h) (Or.inl ⟨by rfl, ?_⟩) (by assumption) ?_
    rotate_left
    · (intro w hSw; (try dsimp only at hSw); go_simp; first | done | with_reducible rfl)
    (try simp only [Act.put, List.setIfInBounds_toArray, List.set_cons_zero, List.set_cons_succ])
    refine wpAnyH_take (i := 17) (v := ?_) (atS <| atS <| atS <| atS <| atS <| atS <| atS <| atS <| atS <| atS <| atS <| atS <| atS <| atS <| atS <| atS <| atS <| at0) (by kernel_rfl) (by kernel_rfl) (by kernel_rfl) (fun _ _ _ h => h) (Or.inl ⟨by rfl, ?_⟩) (by assumption) ?_
    rotate_left
    · (intro w hSw; (try dsimp only at hSw); go_simp; first | done | with_reducible rfl)
    (try simp only [Act.put, List.setIfInBounds_toArray, List.set_cons_zero, List.set_cons_succ])
    refine wpAnyH_take (i := 18) (v := ?_) (atS <| atS <| atS <| atS <| atS <| atS <| atS <| atS <| atS <| atS <| atS <| atS <| atS <| atS <| atS <| atS <| atS <| atS <| at0) (by kernel_rfl) (by kernel_rfl) (by kernel_rfl) (fun _ _ _ h => h) (Or.inl ⟨by rfl, ?_⟩) (by assumption) ?_
    rotate_left
    · (intro w hSw; (try dsimp only at hSw); go_simp; first | done | with_reducible rfl)
    (try simp only [Act.put, List.setIfInBounds_toArray, List.set_cons_zero, List.set_cons_succ])
    refine wpAnyH_ready (rs := [19]) (by kernel_rfl) (by simp) ?_
    refine AllReadyH.cons (atS <| atS <| atS <| atS <| atS <| atS <| atS <| atS <| atS <| atS <| atS <| atS <| atS <| atS <| atS <| atS <| atS <| atS <| atS <| at0) (fun K hK => ?_) AllReadyH.nil
    go_simp
    go_at_call 10
    refine (check_at 0 1000000001 (-1) (-1) (-1) 0 0 _ rfl).mono ?_
    rintro e w28 ⟨rfl, hb28⟩
    have hz28 := hz27.trans (hb28.mono hz27.size)
    (try go_wp2_with fail)
    refine hK.out _ _ (HS.out _ hz28) (fun hHeld4 => ?_)
    clear hK K hHeld
    have hHeld := hHeld4
    clear hHeld4
    (try simp only [Act.put, List.setIfInBounds_toArray, List.set_cons_zero, List.set_cons_succ])
    refine wpAnyH_take (i := 20) (v := ?_) (atS <| atS <| atS <| atS <| atS <| atS <| atS <| atS <| atS <| atS <| atS <| atS <| atS <| atS <| atS <| atS <| atS <| atS <| atS <| atS <| at0) (by kernel_rfl) (by kernel_rfl) (by kernel_rfl) (fun _ _ _ h => h) (Or.inl ⟨by rfl, ?_⟩) (by assumption) ?_
    rotate_left
    · (intro w hSw; (try dsimp only at hSw); go_simp; first | done | with_reducible rfl)
    (try simp only [Act.put, List.setIfInBounds_toArray, List.set_cons_zero, List.set_cons_succ])
    refine wpAnyH_take (i := 21) (v := ?_) (atS <| atS <| atS <| atS <| atS <| atS <| atS <| atS <| atS <| atS <| atS <| atS <| atS <| atS <| atS <| atS <| atS <| atS <| atS <| atS <| atS <| at0) (by kernel_rfl) (by kernel_rfl) (by kernel_rfl) (fun _ _ _ h => h) (Or.inl ⟨by rfl, ?_⟩) (by assumption) ?_
    rotate_left
    · (intro w hSw; (try dsimp only at hSw); go_simp; first | done | with_reducible rfl)
    (try simp only [Act.put, List.setIfInBounds_toArray, List.set_cons_zero, List.set_cons_succ])
    refine wpAnyH_take (i := 22) (v := ?_) (atS <| atS <| atS <| atS <| atS <| atS <| atS <| atS <| atS <| atS <| atS <| atS <| atS <| atS <| atS <| atS <| atS <| atS <| atS <| atS <| atS <| atS <| at0) (by kernel_rfl) (by kernel_rfl) (by kernel_rfl) (fun _ _ _ h => h) (Or.inl ⟨by rfl, ?_⟩) (by assumption) ?_
    rotate_left
    · (intro w hSw; (try dsimp only at hSw); go_simp; first | done | with_reducible rfl)
    (try simp only [Act.put, List.setIfInBounds_toArray, List.set_cons_zero, List.set_cons_succ])
    refine wpAnyH_take (i := 23) (v := ?_) (atS <| atS <| atS <| atS <| atS <| atS <| atS <| atS <| atS <| atS <| atS <| atS <| atS <| atS <| atS <| atS <| atS <| atS <| atS <| atS <| atS <| atS <| atS <| at0) (by kernel_rfl) (by kernel_rfl) (by kernel_rfl) (fun _ _ _ h => h) (Or.inl ⟨by rfl, ?_⟩) (by assumption) ?_
    rotate_left
    · (intro w hSw; (try dsimp only at hSw); go_simp; first | done | with_reducible rfl)
    (try simp only [Act.put, List.setIfInBounds_toArray, List.set_cons_zero, List.set_cons_succ])
    refine wpAnyH_ready (rs := [24]) (by kernel_rfl) (by simp) ?_
    refine AllReadyH.cons (atS <| atS <| atS <| atS <| atS <| atS <| atS <| atS <| atS <| atS <| atS <| atS <| atS <| atS <| atS <| atS <| atS <| atS <| atS <| atS <| atS <| atS <| atS <| atS <| at0) (fun K hK => ?_) AllReadyH.nil
    go_simp
    go_at_call 10
    refine (check_at 0 0 (-2) 0 0 0 2 _ rfl).mono ?_
    rintro e w29 ⟨rfl, hb29⟩
    have hz29 := hz28.trans (hb29.mono hz28.size)
    (try go_wp2_with fail)
    refine hK.out _ _ (HS.out _ hz29) (fun hHeld5 => ?_)
    clear hK K hHeld
    have hHeld := hHeld5
    clear hHeld5
    (try simp only [Act.put, List.setIfInBounds_toArray, List.set_cons_zero, List.set_cons_succ])
    refine wpAnyH_take (i := 25) (v := ?_) (atS <| atS <| atS <| atS <| atS <| atS <| atS <| atS <| atS <| atS <| atS <| atS <| atS <| atS <| atS <| atS <| atS <| atS <| atS <| atS <| atS <| atS <| atS <| atS <| atS <| at0) (by kernel_rfl) (by kernel_rfl) (by kernel_rfl) (fun _ _ _ h => h) (Or.inl ⟨by rfl, ?_⟩) (by assumption) ?_
    rotate_left
    · (intro w hSw; (try dsimp only at hSw); go_simp; first | done | with_reducible rfl)
    (try simp only [Act.put, List.setIfInBounds_toArray, List.set_cons_zero, List.set_cons_succ])
    refine wpAnyH_take (i := 26) (v := ?_) (atS <| atS <| atS <| atS <| atS <| atS <| atS <| atS <| atS <| atS <| atS <| atS <| atS <| atS <| atS <| atS <| atS <| atS <| atS <| atS <| atS <| atS <| atS <| atS <| atS <| atS <| at0) (by kernel_rfl) (by kernel_rfl) (by kernel_rfl) (fun _ _ _ h => h) (Or.inl ⟨by rfl, ?_⟩) (by assumption) ?_
    rotate_left
    · (intro w hSw; (try dsimp only at hSw); go_simp; first | done | with_reducible rfl)
    (try simp only [Act.put, List.setIfInBounds_toArray, List.set_cons_zero, List.set_cons_succ])
    refine wpAnyH_take (i := 27) (v := ?_) (atS <| atS <| atS <| atS <| atS <| atS <| atS <| atS <| atS <| atS <| atS <| atS <| atS <| atS <| atS <| atS <| atS <| atS <| atS <| atS <| atS <| atS <| atS <| atS <| atS <| atS <| atS <| at0) (by kernel_rfl) (by kernel_rfl) (by kernel_rfl) (fun _ _ _ h => h) (Or.inl ⟨by rfl, ?_⟩) (by assumption) ?_
    rotate_left
    · (intro w hSw; (try dsimp only at hSw); go_simp; first | done | with_reducible rfl)
    (try simp only [Act.put, List.setIfInBounds_toArray, List.set_cons_zero, List.set_cons_succ])
    refine wpAnyH_take (i := 28) (v := ?_) (atS <| atS <| atS <| atS <| atS <| atS <| atS <| atS <| atS <| atS <| atS <| atS <| atS <| atS <| atS <| atS <| atS <| atS <| atS <| atS <| atS <| atS <| atS <| atS <| atS <| atS <| atS <| atS <| at0) (by kernel_rfl) (by kernel_rfl) (by kernel_rfl) (fun _ _ _ h => h) (Or.inl ⟨by rfl, ?_⟩) (by assumption) ?_
    rotate_left
    · (intro w hSw; (try dsimp only at hSw); go_simp; first | done | with_reducible rfl)
    (try simp only [Act.put, List.setIfInBounds_toArray, List.set_cons_zero, List.set_cons_succ])
    refine wpAnyH_ready (rs := [29]) (by kernel_rfl) (by simp) ?_
    refine AllReadyH.cons (atS <| atS <| atS <| atS <| atS <| atS <| atS <| atS <| atS <| atS <| atS <| atS <| atS <| atS <| atS <| atS <| atS <| atS <| atS <| atS <| atS <| atS <| atS <| atS <| atS <| atS <| atS <| atS <| atS <| at0) (fun K hK => ?_) AllReadyH.nil
    go_simp
    go_at_call 10
    refine (check_at 0 0 0 0 0 19 1 _ rfl).mono ?_
    rintro e w30 ⟨rfl, hb30⟩
    have hz30 := hz29.trans (hb30.mono hz29.size)
    (try go_wp2_with fail)
    refine hK.out _ _ (HS.out _ hz30) (fun hHeld6 => ?_)
    clear hK K hHeld
    have hHeld := hHeld6
    clear hHeld6
    (try simp only [Act.put, List.setIfInBounds_toArray, List.set_cons_zero, List.set_cons_succ])
    refine wpAnyH_take (i := 30) (v := ?_) (atS <| atS <| atS <| atS <| atS <| atS <| atS <| atS <| atS <| atS <| atS <| atS <| atS <| atS <| atS <| atS <| atS <| atS <| atS <| atS <| atS <| atS <| atS <| atS <| atS <| atS <| atS <| atS <| atS <| atS <| at0) (by kernel_rfl) (by kernel_rfl) (by kernel_rfl) (fun _ _ _ h => h) (Or.inl ⟨by rfl, ?_⟩) (by assumption) ?_
    rotate_left
    · (intro w hSw; (try dsimp only at hSw); go_simp; first | done | with_reducible rfl)
    (try simp only [Act.put, List.setIfInBounds_toArray, List.set_cons_zero, List.set_cons_succ])
    refine wpAnyH_take (i := 31) (v := ?_) (atS <| atS <| atS <| atS <| atS <| atS <| atS <| atS <| atS <| atS <| atS <| atS <| atS <| atS <| atS <| atS <| atS <| atS <| atS <| atS <| atS <| atS <| atS <| atS <| atS <| atS <| atS <| atS <| atS <| atS <| atS <| at0) (by kernel_rfl) (by kernel_rfl) (by kernel_rfl) (fun _ _ _ h => h) (Or.inl ⟨by rfl, ?_⟩) (by assumption) ?_
    rotate_left
    · (intro w hSw; (try dsimp only at hSw); go_simp; first | done | with_reducible rfl)
    (try simp only [Act.put, List.setIfInBounds_toArray, List.set_cons_zero, List.set_cons_succ])
    refine wpAnyH_take (i := 32) (v := ?_) (atS <| atS <| atS <| atS <| atS <| atS <| atS <| atS <| atS <| atS <| atS <| atS <| atS <| atS <| atS <| atS <| atS <| atS <| atS <| atS <| atS <| atS <| atS <| atS <| atS <| atS <| atS <| atS <| atS <| atS <| atS <| atS <| at0) (by kernel_rfl) (by kernel_rfl) (by kernel_rfl) (fun _ _ _ h => h) (Or.inl ⟨by rfl, ?_⟩) (by assumption) ?_
    rotate_left
    · (intro w hSw; (try dsimp only at hSw); go_simp; first | done | with_reducible rfl)
    (try simp only [Act.put, List.setIfInBounds_toArray, List.set_cons_zero])
    refine wpAnyH_done (by kernel_rfl) ?_ _
    go_wp2_with fail
    go_ret
    exact ⟨rfl, BW.out.trans (hz30.mono BW.out.size)⟩
  · go_simp
    refine hK.out _ _ (HS.out _ (hz24.trans ((below_box w24 (.cells #[.int .i64 3, .int .i64 0, .int .i64 1, .int .i64 8, .int .i64 0, .int .i64 0, .int .i64 6, .int .i64 0, .int .i64 2, .int .i64 8, .int .i64 0, .int .i64 0] 34)).mono hz24.size))) (fun hHx => ?_)
    clear hK K hHeld
    have hHeld := hHx
    clear hHx
    (try simp only [Act.put, List.setIfInBounds_toArray, List.set_cons_zero, List.set_cons_succ])
    have hz25 := hz24.trans ((below_box w24 (.cells #[.int .i64 3, .int .i64 0, .int .i64 1, .int .i64 8, .int .i64 0, .int .i64 0, .int .i64 6, .int .i64 0, .int .i64 2, .int .i64 8, .int .i64 0, .int .i64 0] 34)).mono hz24.size)
    have hN25 := rd_lit w24 #[.int .i64 3, .int .i64 0, .int .i64 1, .int .i64 8, .int .i64 0, .int .i64 0, .int .i64 6, .int .i64 0, .int .i64 2, .int .i64 8, .int .i64 0, .int .i64 0] 34 rcs_ok (l := [⟨3, 0, 1, 8, 0, 0⟩, ⟨6, 0, 2, 8, 0, 0⟩]) rfl
    refine wpAnyH_ready (rs := [7]) (by kernel_rfl) (by simp) ?_
    refine AllReadyH.cons (atS <| atS <| atS <| atS <| atS <| atS <| atS <| at0) (fun K hK => ?_) AllReadyH.nil
    go_simp
    go_at_call 13
    refine (filter_any 0 1000000001 (-1) 8 (-1) 0 (some ⟨gFL, 0, none⟩) 6 6 [⟨1, 0, 1, 7, 0, 0⟩, ⟨2, 0, 1, 7, 0, 0⟩, ⟨3, 0, 1, 8, 0, 0⟩, ⟨5, 0, 2, 7, 0, 0⟩, ⟨6, 0, 2, 8, 0, 0⟩, ⟨7, 0, 2, 7, 0, 0⟩] _ (HRL.out _ hz25) rfl (by decide) [⟨3, 0, 1, 8, 0, 0⟩, ⟨6, 0, 2, 8, 0, 0⟩] rfl 2 rfl).mono ?_
    rintro e w26 ⟨A7, cap7, rfl, ho7, hbw26⟩
    have hzw26 := hz25.trans (hbw26.mono hz25.size)
    have hAw26 := ho7.rd rcs_ok
    (try go_wp2_with fail)
    refine hK.out _ _ (HS.out _ hzw26) (fun hHeld7 => ?_)
    clear hK K hHeld
    have hHeld := hHeld7
    clear hHeld7
    (try simp only [Act.put, List.setIfInBounds_toArray, List.set_cons_zero, List.set_cons_succ])
    have hN26 := hN25.after hbw26
    have hz26 := hzw26
    refine wpAnyH_ready (rs := [15]) (by kernel_rfl) (by simp) ?_
    refine AllReadyH.cons (atS <| atS <| atS <| atS <| atS <| atS <| atS <| atS <| atS <| atS <| atS <| atS <| atS <| atS <| atS <| at0) (fun K hK => ?_) AllReadyH.nil
    go_simp
    go_at_call 12
    refine (sameRecs_any A7 (some ⟨w24.heap.size, 0, none⟩) 2 cap7 2 [⟨3, 0, 1, 8, 0, 0⟩, ⟨6, 0, 2, 8, 0, 0⟩] _ hAw26 hN26 rfl (by decide)).mono ?_
    rintro e w27 ⟨rfl, hb27⟩
    have hz27 := hz26.trans (hb27.mono hz26.size)
    (try go_wp2_with fail)
    refine hK.out _ _ (HS.out _ hz27) (fun hHeld8 => ?_)
    clear hK K hHeld
    have hHeld := hHeld8
    clear hHeld8
    (try simp only [Act.put, List.setIfInBounds_toArray, List.set_cons_zero, List.set_cons_succ])
    refine wpAnyH_take (i := 16) (v := ?_) (atS <| atS <| atS <| atS <| atS <| atS <| atS <| atS <| atS <| atS <| atS <| atS <| atS <| atS <| atS <| atS <| at0) (by kernel_rfl) (by kernel_rfl) (by kernel_rfl) (fun _ _ _ h => h) (Or.inl ⟨by rfl, ?_⟩) (by assumption) ?_
    rotate_left
    · (intro w hSw; (try dsimp only at hSw); go_simp; first | done | with_reducible rfl)
    (try simp only [Act.put, List.setIfInBounds_toArray, List.set_cons_zero, List.set_cons_succ])
    refine wpAnyH_take (i := 17) (v := ?_) (atS <| atS <| atS <| atS <| atS <| atS <| atS <| atS <| atS <| atS <| atS <| atS <| atS <| atS <| atS <| atS <| atS <| at0) (by kernel_rfl) (by kernel_rfl) (by kernel_rfl) (fun _ _ _ h => h) (Or.inl ⟨by rfl, ?_⟩) (by assumption) ?_
    rotate_left
    · (intro w hSw; (try dsimp only at hSw); go_simp; first | done | with_reducible rfl)
    (try simp only [Act.put, List.setIfInBounds_toArray, List.set_cons_zero, List.set_cons_succ])
    refine wpAnyH_take (i := 18) (v := ?_) (atS <| atS <| atS <| atS <| atS <| atS <| atS <| atS <| atS <| atS <| atS <| atS <| atS <| atS <| atS <| atS <| atS <| atS <| at0) (by kernel_rfl) (by kernel_rfl) (by kernel_rfl) (fun _ _ _ h => h) (Or.inl ⟨by rfl, ?_⟩) (by assumption) ?_
    rotate_left
    · (intro w hSw; (try dsimp only at hSw); go_simp; first | done | with_reducible rfl)
    (try simp only [Act.put, List.setIfInBounds_toArray, List.set_cons_zero, List.set_cons_succ])
    refine wpAnyH_ready (rs := [19]) (by kernel_rfl) (by simp) ?_
    refine AllReadyH.cons (atS <| atS <| atS <| atS <| atS <| atS <| atS <| atS <| atS <| atS <| atS <| atS <| atS <| atS <| atS <| atS <| atS <| atS <| atS <| at0) (fun K hK => ?_) AllReadyH.nil
    go_simp
    go_at_call 10
    refine (check_at 0 1000000001 (-1) (-1) (-1) 0 0 _ rfl).mono ?_
    rintro e w28 ⟨rfl, hb28⟩
    have hz28 := hz27.trans (hb28.mono hz27.size)
    (try go_wp2_with fail)
    refine hK.out _ _ (HS.out _ hz28) (fun hHeld9 => ?_)
    clear hK K hHeld
    have hHeld := hHeld9
    clear hHeld9
    (try simp only [Act.put, List.setIfInBounds_toArray, List.set_cons_zero, List.set_cons_succ])
    refine wpAnyH_take (i := 20) (v := ?_) (atS <| atS <| atS <| atS <| atS <| atS <| atS <| atS <| atS <| atS <| atS <| atS <| atS <| atS <| atS <| atS <| atS <| atS <| atS <| atS <| at0) (by kernel_rfl) (by kernel_rfl) (by kernel_rfl) (fun _ _ _ h => h) (Or.inl ⟨by rfl, ?_⟩) (by assumption) ?_
    rotate_left
    · (intro w hSw; (try dsimp only at hSw); go_simp; first | done | with_reducible rfl)
    (try simp only [Act.put, List.setIfInBounds_toArray, List.set_cons_zero, List.set_cons_succ])
    refine wpAnyH_take (i := 21) (v := ?_) (atS <| atS <| atS <| atS <| atS <| atS <| atS <| atS <| atS <| atS <| atS <| atS <| atS <| atS <| atS <| atS <| atS <| atS <| atS <| atS <| atS <| at0) (by kernel_rfl) (by kernel_rfl) (by kernel_rfl) (fun _ _ _ h => h) (Or.inl ⟨by rfl, ?_⟩) (by assumption) ?_
    rotate_left
    · (intro w hSw; (try dsimp only at hSw); go_simp; first | done | with_reducible rfl)
    (try simp only [Act.put, List.setIfInBounds_toArray, List.set_cons_zero, List.set_cons_succ])
    refine wpAnyH_take (i := 22) (v := ?_) (atS <| atS <| atS <| atS <| atS <| atS <| atS <| atS <| atS <| atS <| atS <| atS <| atS <| atS <| atS <| atS <| atS <| atS <| atS <| atS <| atS <| atS <| at0) (by kernel_rfl) (by kernel_rfl) (by kernel_rfl) (fun _ _ _ h => h) (Or.inl ⟨by rfl, ?_⟩) (by assumption) ?_
    rotate_left
    · (intro w hSw; (try dsimp only at hSw); go_simp; first | done | with_reducible rfl)
    (try simp only [Act.put, List.setIfInBounds_toArray, List.set_cons_zero, List.set_cons_succ])
    refine wpAnyH_take (i := 23) (v := ?_) (atS <| atS <| atS <| atS <| atS <| atS <| atS <| atS <| atS <| atS <| atS <| atS <| atS <| atS <| atS <| atS <| atS <| atS <| atS <| atS <| atS <| atS <| atS <| at0) (by kernel_rfl) (by kernel_rfl) (by kernel_rfl) (fun _ _ _ h => h) (Or.inl ⟨by rfl, ?_⟩) (by assumption) ?_
    rotate_left
    · (intro w hSw; (try dsimp only at hSw); go_simp; first | done | with_reducible rfl)
    (try simp only [Act.put, List.setIfInBounds_toArray, List.set_cons_zero, List.set_cons_succ])
    refine wpAnyH_ready (rs := [24]) (by kernel_rfl) (by simp) ?_
    refine AllReadyH.cons (atS <| atS <| atS <| atS <| atS <| atS <| atS <| atS <| atS <| atS <| atS <| atS <| atS <| atS <| atS <| atS <| atS <| atS <| atS <| atS <| atS <| atS <| atS <| atS <| at0) (fun K hK => ?_) AllReadyH.nil
    go_simp
    go_at_call 10
    refine (check_at 0 0 (-2) 0 0 0 2 _ rfl).mono ?_
    rintro e w29 ⟨rfl, hb29⟩
    have hz29 := hz28.trans (hb29.mono hz28.size)
    (try go_wp2_with fail)
    refine hK.out _ _ (HS.out _ hz29) (fun hHeld10 => ?_)
    clear hK K hHeld
    have hHeld := hHeld10
    clear hHeld10
    (try simp only [Act.put, List.setIfInBounds_toArray, List.set_cons_zero, List.set_cons_succ])
    refine wpAnyH_take (i := 25) (v := ?_) (atS <| atS <| atS <| atS <| atS <| atS <| atS <| atS <| atS <| atS <| atS <| atS <| atS <| atS <| atS <| atS <| atS <| atS <| atS <| atS <| atS <| atS <| atS <| atS <| atS <| at0) (by kernel_rfl) (by kernel_rfl) (by kernel_rfl) (fun _ _ _ h => h) (Or.inl ⟨by rfl, ?_⟩) (by assumption) ?_
    rotate_left
    · (intro w hSw; (try dsimp only at hSw); go_simp; first | done | with_reducible rfl)
    (try simp only [Act.put, List.setIfInBounds_toArray, List.set_cons_zero, List.set_cons_succ])
    refine wpAnyH_take (i := 26) (v := ?_) (atS <| atS <| atS <| atS <| atS <| atS <| atS <| atS <| atS <| atS <| atS <| atS <| atS <| atS <| atS <| atS <| atS <| atS <| atS <| atS <| atS <| atS <| atS <| atS <| atS <| atS <| at0) (by kernel_rfl) (by kernel_rfl) (by kernel_rfl) (fun _ _ _ h => h) (Or.inl ⟨by rfl, ?_⟩) (by assumption) ?_
    rotate_left
    · (intro w hSw; (try dsimp only at hSw); go_simp; first | done | with_reducible rfl)
    (try simp only [Act.put, List.setIfInBounds_toArray, List.set_cons_zero, List.set_cons_succ])
    refine wpAnyH_take (i := 27) (v := ?_) (atS <| atS <| atS <| atS <| atS <| atS <| atS <| atS <| atS <| atS <| atS <| atS <| atS <| atS <| atS <| atS <| atS <| atS <| atS <| atS <| atS <| atS <| atS <| atS <| atS <| atS <| atS <| at0) (by kernel_rfl) (by kernel_rfl) (by kernel_rfl) (fun _ _ _ h => h) (Or.inl ⟨by rfl, ?_⟩) (by assumption) ?_
    rotate_left
    · (intro w hSw; (try dsimp only at hSw); go_simp; first | done | with_reducible rfl)
    (try simp only [Act.put, List.setIfInBounds_toArray, List.set_cons_zero, List.set_cons_succ])
    refine wpAnyH_take (i := 28) (v := ?_) (atS <| atS <| atS <| atS <| atS <| atS <| atS <| atS <| atS <| atS <| atS <| atS <| atS <| atS <| atS <| atS <| atS <| atS <| atS <| atS <| atS <| atS <| atS <| atS <| atS <| atS <| atS <| atS <| at0) (by kernel_rfl) (by kernel_rfl) (by kernel_rfl) (fun _ _ _ h => h) (Or.inl ⟨by rfl, ?_⟩) (by assumption) ?_
    rotate_left
    · (intro w hSw; (try dsimp only at hSw); go_simp; first | done | with_reducible rfl)
    (try simp only [Act.put, List.setIfInBounds_toArray, List.set_cons_zero, List.set_cons_succ])
    refine wpAnyH_ready (rs := [29]) (by kernel_rfl) (by simp) ?_
    refine AllReadyH.cons (atS <| atS <| atS <| atS <| atS <| atS <| atS <| atS <| atS <| atS <| atS <| atS <| atS <| atS <| atS <| atS <| atS <| atS <| atS <| atS <| atS <| atS <| atS <| atS <| atS <| atS <| atS <| atS <| atS <| at0) (fun K hK => ?_) AllReadyH.nil
    go_simp
    go_at_call 10
    refine (check_at 0 0 0 0 0 19 1 _ rfl).mono ?_
    rintro e w30 ⟨rfl, hb30⟩
    have hz30 := hz29.trans (hb30.mono hz29.size)
    (try go_wp2_with fail)
    refine hK.out _ _ (HS.out _ hz30) (fun hHeld11 => ?_)
    clear hK K hHeld
    have hHeld := hHeld11
    clear hHeld11
    (try simp only [Act.put, List.setIfInBounds_toArray, List.set_cons_zero, List.set_cons_succ])
    refine wpAnyH_take (i := 30) (v := ?_) (atS <| atS <| atS <| atS <| atS <| atS <| atS <| atS <| atS <| atS <| atS <| atS <| atS <| atS <| atS <| atS <| atS <| atS <| atS <| atS <| atS <| atS <| atS <| atS <| atS <| atS <| atS <| atS <| atS <| atS <| at0) (by kernel_rfl) (by kernel_rfl) (by kernel_rfl) (fun _ _ _ h => h) (Or.inl ⟨by rfl, ?_⟩) (by assumption) ?_
    rotate_left
    · (intro w hSw; (try dsimp only at hSw); go_simp; first | done | with_reducible rfl)
    (try simp only [Act.put, List.setIfInBounds_toArray, List.set_cons_zero, List.set_cons_succ])
    refine wpAnyH_take (i := 31) (v := ?_) (atS <| atS <| atS <| atS <| atS <| atS <| atS <| atS <| atS <| atS <| atS <| atS <| atS <| atS <| atS <| atS <| atS <| atS <| atS <| atS <| atS <| atS <| atS <| atS <| atS <| atS <| atS <| atS <| atS <| atS <| atS <| at0) (by kernel_rfl) (by kernel_rfl) (by kernel_rfl) (fun _ _ _ h => h) (Or.inl ⟨by rfl, ?_⟩) (by assumption) ?_
    rotate_left
    · (intro w hSw; (try dsimp only at hSw); go_simp; first | done | with_reducible rfl)
    (try simp only [Act.put, List.setIfInBounds_toArray, List.set_cons_zero, List.set_cons_succ])
    refine wpAnyH_take (i := 32) (v := ?_) (atS <| atS <| atS <| atS <| atS <| atS <| atS <| atS <| atS <| atS <| atS <| atS <| atS <| atS <| atS <| atS <| atS <| atS <| atS <| atS <| atS <| atS <| atS <| atS <| atS <| atS <| atS <| atS <| atS <| atS <| atS <| atS <| at0) (by kernel_rfl) (by kernel_rfl) (by kernel_rfl) (fun _ _ _ h => h) (Or.inl ⟨by rfl, ?_⟩) (by assumption) ?_
    rotate_left
    · (intro w hSw; (try dsimp only at hSw); go_simp; first | done | with_reducible rfl)
    (try simp only [Act.put, List.setIfInBounds_toArray, List.set_cons_zero])
    refine wpAnyH_done (by kernel_rfl) ?_ _
    go_wp2_with fail
    go_ret
    exact ⟨rfl, BW.out.trans (hz30.mono BW.out.size)⟩
end Go.Proofs.Ytojadmccenkffaa
