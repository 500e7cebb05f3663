/- The walk of the statement CodecReads. -/
import Derived.Test.YtelanbiedfldgaaSums
namespace Go.Proofs.Ytelanbiedfldgaa
open Go.RowKit

theorem few_at (A1 A2 : Option Addr) (n1 c1 n2 c2 : Nat) (s : ByteArray) (r : Bool) (w : World) (h : (decide (n1 ≤ 300) && (decide (s.size ≤ 300) && decide (n2 ≤ 300))) = r) :
    Calls Try.prog 10 #[.slice A1 n1 c1, .string s, .slice A2 n2 c2] w (SamePost w r) := by
  subst h; exact few_any A1 A2 n1 c1 n2 c2 s w
theorem rtext_at (A : Option Addr) (cap n : Nat) (bs : List Nat) (limit : Int) (s : ByteArray) (v e : Int) (w : World) (hb : Byts w w.heap.size A bs) (hB : Cd.Byt bs) (hn : bs.length = n) (hl : n ≤ 1000000) (hcap : n ≤ cap) (hr : strOf (Cd.textL bs limit).1 = s) (hv : (Cd.textL bs limit).2.1 = v) (he : (Cd.textL bs limit).2.2 = e) :
    Calls Try.prog 19 #[.slice A n cap, .int .i64 limit] w fun e' w' => e' = .returned (.tuple #[.string s, .int .i64 v, .int .i64 e]) ∧ Below w.heap.size w w' := by
  subst hn; subst hr; subst hv; subst he; exact rtext_any A cap bs limit w hb hB hl hcap
theorem rints_at (A : Option Addr) (cap n : Nat) (bs : List Nat) (limit : Int) (r : List Int × Int × Int) (w : World) (hb : Byts w w.heap.size A bs) (hB : Cd.Byt bs) (hn : bs.length = n) (hl : n ≤ 1000000) (hcap : n ≤ cap) (hr : Cd.intsL bs limit = r) :
    Calls Try.prog 20 #[.slice A n cap, .int .i64 limit] w (IntsPost w r) := by
  subst hn; subst hr; exact rints_any A cap bs limit w hb hB hl hcap
theorem ints_short : ∀ (bs : List Nat) (m a : Nat) (acc : List Int), acc.length + (bs.length - a) ≤ bs.length → a ≤ bs.length → (Cd.intsGo bs m a acc).1.length ≤ bs.length
  | bs, 0, a, acc, h, _ => by rw [Cd.intsGo]; simp only []; omega
  | bs, m + 1, a, acc, h, ha => by
    rw [Cd.intsGo]
    split
    · simp
    · rename_i h1
      obtain ⟨j, e, h2, h3⟩ := Cd.dec_size_le (bs := bs.drop a) (by omega)
      rw [List.length_drop] at h3
      rw [e, Int.toNat_natCast]
      exact ints_short bs m (a + j) _ (by rw [List.length_append, List.length_singleton]; omega) (by omega)
theorem intsL_short (bs : List Nat) (limit : Int) : (Cd.intsL bs limit).1.length ≤ bs.length := by
  unfold Cd.intsL
  split
  · simp
  · rename_i h1
    obtain ⟨n, j, e, h3, h4, _⟩ := Cd.lenL_ok (bs := bs) (limit := limit) (by omega)
    rw [e]
    exact ints_short bs _ _ [] (by simp) (by simpa using h4)

set_option maxRecDepth 100000 in
set_option maxHeartbeats 2000000 in
theorem reads_any (A : Option Addr) (cap : Nat) (bs : List Nat) (most : Int) (w : World) (hb : Byts w w.heap.size A bs) (hB : Cd.Byt bs) (hcap : bs.length ≤ cap) :
    Calls Try.prog 5 #[.slice A bs.length cap, .int .i64 most] w fun e w' => e = .returned (.bool true) ∧ Below w.heap.size w w' := by
  by_cases h3 : 300 < bs.length
  · go_enter Try.func5, Try.ntmps5
    go_wp2_with fail
    refine (few_at A none bs.length cap 0 0 ⟨#[]⟩ false _ (by rw [decide_eq_false (show ¬ bs.length ≤ 300 by omega)]; rfl)).mono ?_
    rintro e w1 ⟨rfl, hb1⟩
    go_wp2_with fail
    refine (awake_any _).mono ?_
    rintro e w2 ⟨rfl, hb2⟩
    go_wp2_with fail
    go_ret
    exact ⟨rfl, hb1.trans (hb2.mono hb1.size)⟩
  · have HB := Lib.hid hB
    have hl6 : bs.length ≤ 1000000 := by omega
    have hsh := intsL_short bs most
    obtain ⟨v, hv⟩ : ∃ v, v = (Cd.dec 0 0 bs).1 := ⟨_, rfl⟩
    obtain ⟨sz, hsz⟩ : ∃ sz, sz = (Cd.dec 0 0 bs).2.1 := ⟨_, rfl⟩
    obtain ⟨er, her⟩ : ∃ er, er = (Cd.dec 0 0 bs).2.2 := ⟨_, rfl⟩
    have HX1 := Lib.hid (show Cd.dec 0 0 bs = (v, sz, er) by rw [hv, hsz, her])
    obtain ⟨ts, hts⟩ : ∃ ts, ts = strOf (Cd.textL bs most).1 := ⟨_, rfl⟩
    obtain ⟨tz, htz⟩ : ∃ tz, tz = (Cd.textL bs most).2.1 := ⟨_, rfl⟩
    obtain ⟨te, hte⟩ : ∃ te, te = (Cd.textL bs most).2.2 := ⟨_, rfl⟩
    have HT1 := Lib.hid hts.symm
    have HT2 := Lib.hid htz.symm
    have HT3 := Lib.hid hte.symm
    obtain ⟨L, hL⟩ : ∃ L, L = (Cd.intsL bs most).1 := ⟨_, rfl⟩
    obtain ⟨lz, hlz⟩ : ∃ lz, lz = (Cd.intsL bs most).2.1 := ⟨_, rfl⟩
    obtain ⟨le, hle⟩ : ∃ le, le = (Cd.intsL bs most).2.2 := ⟨_, rfl⟩
    have HL := Lib.hid (show Cd.intsL bs most = (L, lz, le) by rw [hL, hlz, hle])
    rw [← hL] at hsh
    have HSH := Lib.hid (show L.length ≤ 1000000 by omega)
    clear hB hv hsz her hts htz hte hL hlz hle hsh
    go_enter Try.func5, Try.ntmps5
    go_wp2_with fail
    refine (few_at A none bs.length cap 0 0 ⟨#[]⟩ true _ (by rw [decide_eq_true (show bs.length ≤ 300 by omega)]; rfl)).mono ?_
    rintro e w1 ⟨rfl, h1⟩
    go_wp2_with fail
    refine (int_at _ cap bs.length bs (v, sz, er) _ ((hb.below h1).more h1.size) HB.out rfl hl6 HX1.out).mono ?_
    rintro e w2 ⟨rfl, hb2⟩
    have h2 := h1.trans (hb2.mono h1.size)
    clear hb2 h1
    go_wp2_with fail
    refine (rint_at _ cap bs.length bs (v, sz, er) _ ((hb.below h2).more h2.size) HB.out rfl hl6 HX1.out).mono ?_
    rintro e w3 ⟨rfl, hb3⟩
    have h3 := h2.trans (hb3.mono h2.size)
    clear hb3 h2
    go_wp2_with fail
    refine (text_at _ cap bs.length bs most ts tz te _ ((hb.below h3).more h3.size) HB.out rfl hl6 hcap HT1.out HT2.out HT3.out).mono ?_
    rintro e w4 ⟨rfl, hb4⟩
    have h4 := h3.trans (hb4.mono h3.size)
    clear hb4 h3
    go_wp2_with fail
    refine (rtext_at _ cap bs.length bs most ts tz te _ ((hb.below h4).more h4.size) HB.out rfl hl6 hcap HT1.out HT2.out HT3.out).mono ?_
    rintro e w5 ⟨rfl, hb5⟩
    have h5 := h4.trans (hb5.mono h4.size)
    clear hb5 h4
    go_wp2_with fail
    refine (ints_at _ cap bs.length bs most (L, lz, le) _ ((hb.below h5).more h5.size) HB.out rfl hl6 hcap HL.out).mono ?_
    rintro e w6 ⟨A6, cap6, rfl, ho6, hb6⟩
    have h6 := h5.trans (hb6.mono h5.size)
    clear hb6 h5
    go_wp2_with fail
    refine (rints_at _ cap bs.length bs most (L, lz, le) _ ((hb.below h6).more h6.size) HB.out rfl hl6 hcap HL.out).mono ?_
    rintro e w7 ⟨A7, cap7, rfl, ho7, hb7⟩
    have h7 := h6.trans (hb7.mono h6.size)
    have hi6 := (ho6.below hb7).ints
    have hi7 := ho7.ints
    clear hb7 h6 ho6 ho7
    go_wp2_with fail
    refine (same_is A6 A7 cap6 cap7 L L _ _ true _ hi6 hi7 rfl rfl HSH.out (by simp)).mono ?_
    rintro e w8 ⟨rfl, hb8⟩
    have h8 := h7.trans (hb8.mono h7.size)
    clear hb8 h7 hi6 hi7
    go_wp2_with fail
    refine (awake_any _).mono ?_
    rintro e w9 ⟨rfl, hb9⟩
    go_wp2_with fail
    go_ret
    exact ⟨rfl, h8.trans (hb9.mono h8.size)⟩
end Go.Proofs.Ytelanbiedfldgaa
