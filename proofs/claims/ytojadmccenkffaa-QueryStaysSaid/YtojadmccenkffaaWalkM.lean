/- The map of Stays: from a key to a slice; the slice's value as it stands. -/
import Derived.Test.YtojadmccenkffaaProg
import Derived.Test.YtojadmccenkffaaPlainC
import Derived.WalkKit
import Derived.WalkLawsBesides
import Derived.WalkSpells
import Derived.Lib.Hide
import Derived.Maps.Own
import Derived.Maps.OwnOps
import Derived.Maps.Views
import Derived.WideKeyEntry
import Derived.DeepKeys4
namespace Go.Proofs.Ytojadmccenkffaa
open Go.RowKit Go.Maps
open Go.ChangeMaps (setBlock heap_setBlock_other heap_setBlock_same)

theorem laidOut : laidOutB Try.prog = true := by kernel_rfl
theorem keyed52 : WideMaps.KeyLaw Try.prog 52 := deep_law_laid laidOut (m := 2) (by decide) (of_decide_eq_true (by kernel_rfl)) (by kernel_rfl) (by rw [Try.underlying52])
theorem law52 : Keyed Try.prog 52 := Keyed.of_law keyed52
def kv (κ : Qr.K3) : Value := .agg #[.int .i64 κ.s, .int .i64 κ.p, .int .i64 κ.i]
def I64 (n : Int) : Prop := -9223372036854775808 ≤ n ∧ n ≤ 9223372036854775807
structure KOk (κ : Qr.K3) : Prop where
  s : I64 κ.s
  p : I64 κ.p
  i : I64 κ.i
def kl (κ : Qr.K3) : Lit := .string (keyBytes [.int .i64 κ.s, .int .i64 κ.p, .int .i64 κ.i])
theorem wf_i64' {n : Int} (h : I64 n) : (Lit.int .i64 n).wf = true := WalkArith.wf_i64 (by unfold I64 at h; omega)
theorem lits3 (m : Nat) {n : Int} (h : I64 n) : Try.prog.keyLits (m + 1) 3 [.int .i64 n] = some [.int .i64 n] := by
  unfold Program.keyLits
  rw [Try.underlying3]
  simp [wf_i64' h]
theorem size_types : ∃ m, Try.prog.types.size = m + 1 := ⟨Try.prog.types.size - 1, by
  have : 1 ≤ Try.prog.types.size := of_decide_eq_true (by kernel_rfl)
  omega⟩
theorem Try.cells52 : Try.prog.cellsOf 52 = 3 := by kernel_rfl
theorem Try.cells3 : Try.prog.cellsOf 3 = 1 := by kernel_rfl
theorem Try.key52 : Try.prog.keyType 52 = true := by kernel_rfl
theorem key_of {κ : Qr.K3} (h : KOk κ) : keyOf Try.prog 52 (kv κ) = some (kl κ) := by
  obtain ⟨m, hm⟩ := size_types
  unfold keyOf
  rw [Try.underlying52]
  have hf : (kv κ).formed Try.prog 52 = true := by
    unfold kv Value.formed
    rw [Try.underlying52, Try.cells52]
    rfl
  have hl : Try.prog.keyLits (m + 1 + 1) 52 [.int .i64 κ.s, .int .i64 κ.p, .int .i64 κ.i] = some [.int .i64 κ.s, .int .i64 κ.p, .int .i64 κ.i] := by
    unfold Program.keyLits
    rw [Try.underlying52]
    simp [Try.cells52, Try.cells3, lits3 m h.s, lits3 m h.p, lits3 m h.i]
  have hc : (kv κ).cells.toList = [.int .i64 κ.s, .int .i64 κ.p, .int .i64 κ.i] := rfl
  simp only [Try.key52, hf, Bool.and_self, if_true, hc, hm, hl, Option.map_some]
  rfl
theorem kl_inj {a b : Qr.K3} (ha : KOk a) (hb : KOk b) (h : kl a = kl b) : a = b := by
  have e := law52.inj (key_of ha) (by rw [h]; exact key_of hb)
  unfold kv at e
  cases a; cases b
  simp only [Value.agg.injEq] at e
  simp at e
  obtain ⟨h1, h2, h3⟩ := e
  rw [h1, h2, h3]
def nilS : Value := .slice none 0 0
def Rv (v : Value) : Option (DataW Value × List MemPlace) := some (.held v, [])
def look (D : DataW Value) (κ : Qr.K3) : Value := match D.atKey (kl κ) (.held nilS) with | .held v => v | _ => nilS
/-- Block b is a map; at the key κ stands the slice 'look D κ'. -/
def QMap (w : World) (b n : Nat) (D : DataW Value) : Prop := w.ownsMap Try.prog 52 Rv b n D
theorem zero53 (w : World) : (zeroValue 53).run Try.prog w = .ok nilS w := by kernel_rfl

theorem QMap.lookup {w : World} {b n : Nat} {D : DataW Value} (h : QMap w b n D) {κ : Qr.K3} (hk : KOk κ) : (Instr.lookup 50 (.map (some b)) (kv κ) false).run Try.prog w = .ok (look D κ) w := by
  obtain ⟨v, ps, hrun, hv⟩ := World.ownsMap.lookup h law52 Try.underlying50 (zero53 w) (zd := .held nilS) (zp := []) rfl (key_of hk)
  rw [hrun]
  unfold Rv at hv
  simp only [Option.some.injEq, Prod.mk.injEq] at hv
  unfold look
  rw [← hv.1]
theorem QMap.isMap {w : World} {b n : Nat} {D : DataW Value} (h : QMap w b n D) : IsMap D := by
  obtain ⟨es, clock, _, _, _, e⟩ := h
  exact ⟨_, e⟩
theorem look_same {w : World} {b n : Nat} {D : DataW Value} (h : QMap w b n D) {κ : Qr.K3} (hk : KOk κ) (v : Value) : look (D.put (kl κ) (.held v)) κ = v := by
  unfold look
  rw [atKey_put_same h.isMap (law52.key (key_of hk))]
theorem look_other {D : DataW Value} {κ κ' : Qr.K3} (hk : KOk κ) (hk' : KOk κ') (hne : κ' ≠ κ) (v : Value) : look (D.put (kl κ) (.held v)) κ' = look D κ' := by
  unfold look
  rw [atKey_put_other (fun e => hne (kl_inj hk' hk e))]
theorem look_empty (κ : Qr.K3) : look (.map []) κ = nilS := by
  unfold look
  have : (DataW.map [] : DataW Value).atKey (kl κ) (.held nilS) = .held nilS := rfl
  rw [this]
theorem QMap.update {w : World} {b n : Nat} {D : DataW Value} (h : QMap w b n D) (hn : n < maxLen) {κ : Qr.K3} (hk : KOk κ) (v : Value) :
    ∃ w', (Instr.mapUpdate 50 (.map (some b)) (kv κ) v).run Try.prog w = .ok () w' ∧ QMap w' b (n + 1) (D.put (kl κ) (.held v)) ∧ w.grownBy w' (some b) :=
  World.ownsMap.update h law52 Try.underlying50 hn (key_of hk) rfl
theorem QMap.entry {w : World} {b n : Nat} {D : DataW Value} (h : QMap w b n D) (hn : n < maxLen) {κ : Qr.K3} (hk : KOk κ) :
    ∃ (st : Nat) (w1 : World), (Instr.mapEntry 50 (.map (some b)) (kv κ)).run Try.prog w = .ok (.tuple #[look D κ, goInt st]) w1 ∧ w.grownBy w1 (some b) ∧
      ∀ (w2 : World) (v : Value), w2.heap[b]? = w1.heap[b]? → ∃ w3, (Instr.entryStore 50 (.map (some b)) (goInt st) v).run Try.prog w2 = .ok () w3 ∧ QMap w3 b (n + 1) (D.put (kl κ) (.held v)) ∧ w2.grownBy w3 (some b) := by
  obtain ⟨es, clock, hb, F, hs, hD⟩ := id h
  obtain ⟨v0, st, es1, clock1, hrun, hwho, hstore⟩ := Go.WideElems.entry_then_store keyed52 Try.underlying50 (fun u => zero53 u) hb F (key_of hk)
  have hlk : v0 = look D κ := by
    have hl := h.lookup hk
    rcases Maps.fit_look false law52 Try.underlying50 (zero53 w) hb F (key_of hk) with ⟨hr, hno, _⟩ | ⟨e0, y, hm, hke, hr, _⟩
    · rw [hl] at hr
      simp at hr
      rcases hwho with ⟨e1, he1, hk1, _⟩ | ⟨_, hz⟩
      · exact absurd hk1 (hno e1 he1)
      · rw [hz, hr]
    · rw [hl] at hr
      simp at hr
      rcases hwho with ⟨e1, he1, hk1, hv1⟩ | ⟨hno, _⟩
      · have : e1 = e0 := by
          have hp := Maps.fit_apart law52 F
          rw [List.pairwise_map] at hp
          rcases List.mem_iff_getElem.1 he1 with ⟨i, hi, rfl⟩
          rcases List.mem_iff_getElem.1 hm with ⟨j, hj, rfl⟩
          by_cases hij : i = j
          · subst hij; rfl
          · exfalso
            have hkk : ∀ a b : Nat, (ha : a < es.toList.length) → (hb : b < es.toList.length) → es.toList[a].key = es.toList[b].key → (Go.WideElems.rg Try.prog 52 Rv es.toList[a]).1 = (Go.WideElems.rg Try.prog 52 Rv es.toList[b]).1 := by
              intro a b ha hb hkey
              obtain ⟨ya, hya⟩ := F.reads _ (List.getElem_mem ha)
              obtain ⟨yb, hyb⟩ := F.reads _ (List.getElem_mem hb)
              rw [Go.WideElems.rg_of hya, Go.WideElems.rg_of hyb]
              have h1 := Go.WideElems.rd_key hya
              have h2 := Go.WideElems.rd_key hyb
              rw [hkey] at h1
              rw [h1] at h2
              exact Option.some.inj h2
            rcases Nat.lt_or_gt_of_ne hij with hlt | hlt
            · exact (List.pairwise_iff_getElem.1 hp i j hi hj hlt) (hkk i j hi hj (hk1.trans hke.symm))
            · exact (List.pairwise_iff_getElem.1 hp j i hj hi hlt) (hkk j i hj hi (hke.trans hk1.symm))
        rw [hv1, this, hr]
      · exact absurd hke (hno e0 hm)
  subst hlk
  refine ⟨st, _, hrun, ⟨rfl, rfl, rfl, by simp [setBlock], fun i _ hi => heap_setBlock_other hb _ (fun e => hi (by rw [e]))⟩, fun w2 v hw2 => ?_⟩
  rw [heap_setBlock_same hb] at hw2
  obtain ⟨es', clock', hr2, hup⟩ := hstore w2 v hw2
  refine ⟨_, hr2, ?_, ⟨rfl, rfl, rfl, by simp [setBlock], fun i _ hi => heap_setBlock_other hw2 _ (fun e => hi (by rw [e]))⟩⟩
  obtain ⟨w', hru, hown, _⟩ := h.update hn hk v
  rw [hup] at hru
  simp at hru
  subst hru
  obtain ⟨es2, clock2, hb2, F2, hs2, hD2⟩ := hown
  rw [heap_setBlock_same hb] at hb2
  cases hb2
  exact ⟨es', clock', heap_setBlock_same hw2 _, F2, hs2, hD2⟩
theorem QMap.kept {w w' : World} {b n : Nat} {D : DataW Value} {row : Option Nat} (h : QMap w b n D) (hg : w.grownBy w' row) (hne : some b ≠ row) : QMap w' b n D := World.ownsMap.kept h hg hne
theorem QMap.lt {w : World} {b n : Nat} {D : DataW Value} (h : QMap w b n D) : b < w.heap.size := World.ownsMap.lt h
theorem QMap.made (w : World) : QMap (w.alloc (.map #[] 0)) w.heap.size 0 (.map []) := World.ownsMap_made _ _ _ _
end Go.Proofs.Ytojadmccenkffaa
