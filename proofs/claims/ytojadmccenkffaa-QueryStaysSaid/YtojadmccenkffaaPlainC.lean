/- The plain law of chapter 43, third part: the stays between two kinds of records. No program in sight. -/
import Derived.Test.YtojadmccenkffaaPlain
namespace Go.Proofs.Ytojadmccenkffaa.Qr

structure K3 where
  s : Int
  p : Int
  i : Int
def Rc.key (r : Rc) : K3 := ⟨r.site, r.proc, r.index⟩
def St.key (s : St) : K3 := ⟨s.site, s.proc, s.index⟩
def sameK (a b : K3) : Bool := decide (a.s = b.s) && (decide (a.p = b.p) && decide (a.i = b.i))
theorem sameK_iff {a b : K3} : sameK a b = true ↔ a = b := by
  unfold sameK
  simp only [Bool.and_eq_true, decide_eq_true_eq]
  constructor
  · rintro ⟨h1, h2, h3⟩
    cases a; cases b
    simp at h1 h2 h3
    rw [h1, h2, h3]
  · rintro rfl
    exact ⟨rfl, rfl, rfl⟩
/-- The places, from n on, of the open stays of a key. -/
def opensF (κ : K3) : Nat → List (St × Bool) → List Nat
  | _, [] => []
  | n, x :: l => if (!x.2 && sameK x.1.key κ) = true then n :: opensF κ (n + 1) l else opensF κ (n + 1) l
def shut (t : Int) (x : St × Bool) : St × Bool := ({ x.1 with til := t }, true)
def closeAt : Nat → Int → List (St × Bool) → List (St × Bool)
  | _, _, [] => []
  | 0, t, x :: l => shut t x :: l
  | i + 1, t, x :: l => x :: closeAt i t l
def stay0 (r : Rc) : St := ⟨r.site, r.proc, r.index, r.time, 0⟩
def stepS (b e : Int) (all : List (St × Bool)) (r : Rc) : List (St × Bool) :=
  match (if r.what = e then opensF r.key 0 all else []) with
  | i :: _ => closeAt i r.time all
  | [] => if r.what = b then all ++ [(stay0 r, false)] else all
def runS (b e : Int) : List (St × Bool) → List Rc → List (St × Bool)
  | all, [] => all
  | all, r :: l => runS b e (stepS b e all r) l
def outS (all : List (St × Bool)) : List St := (all.filter (·.2)).map (·.1)
def stays (l : List Rc) (b e : Int) : List St := outS (runS b e [] l)

theorem stepS_none {b e : Int} {all : List (St × Bool)} {r : Rc} (hq : r.what = e → opensF r.key 0 all = []) (hb : r.what ≠ b) : stepS b e all r = all := by
  have h : (if r.what = e then opensF r.key 0 all else []) = [] := by
    split
    · rename_i h; exact hq h
    · rfl
  unfold stepS
  rw [h]
  simp only []
  rw [if_neg hb]
theorem stepS_push {b e : Int} {all : List (St × Bool)} {r : Rc} (hq : r.what = e → opensF r.key 0 all = []) (hb : r.what = b) : stepS b e all r = all ++ [(stay0 r, false)] := by
  have h : (if r.what = e then opensF r.key 0 all else []) = [] := by
    split
    · rename_i h; exact hq h
    · rfl
  unfold stepS
  rw [h]
  simp only []
  rw [if_pos hb]
theorem stepS_pop {b e : Int} {all : List (St × Bool)} {r : Rc} {z : Nat} {zs : List Nat} (hw : r.what = e) (hq : opensF r.key 0 all = z :: zs) : stepS b e all r = closeAt z r.time all := by
  unfold stepS
  rw [if_pos hw, hq]
theorem outS_snoc {all : List (St × Bool)} {k : Nat} (h : k < all.length) : outS (all.take (k + 1)) = outS (all.take k) ++ (if all[k].2 = true then [all[k].1] else []) := by
  unfold outS
  rw [List.take_succ_eq_append_getElem h, List.filter_append, List.map_append]
  congr 1
  simp only [List.filter_cons, List.filter_nil]
  split <;> rfl
theorem runS_append (b e : Int) : ∀ (l m : List Rc) (all : List (St × Bool)), runS b e all (l ++ m) = runS b e (runS b e all l) m
  | [], _, _ => rfl
  | r :: l, m, all => by rw [List.cons_append, runS, runS, runS_append b e l m]
theorem runS_snoc (b e : Int) {l : List Rc} {k : Nat} (h : k < l.length) : runS b e [] (l.take (k + 1)) = stepS b e (runS b e [] (l.take k)) l[k] := by
  rw [List.take_succ_eq_append_getElem h, runS_append]; rfl
theorem closeAt_len : ∀ (i : Nat) (t : Int) (l : List (St × Bool)), (closeAt i t l).length = l.length
  | _, _, [] => by simp [closeAt]
  | 0, _, _ :: _ => rfl
  | i + 1, t, _ :: l => by simp [closeAt, closeAt_len i t l]
theorem stepS_len (b e : Int) (all : List (St × Bool)) (r : Rc) : (stepS b e all r).length ≤ all.length + 1 := by
  unfold stepS
  split
  · rw [closeAt_len]; omega
  · split
    · simp
    · omega
theorem runS_len (b e : Int) : ∀ (l : List Rc) (all : List (St × Bool)), (runS b e all l).length ≤ all.length + l.length
  | [], _ => by simp [runS]
  | r :: l, all => by
    have := runS_len b e l (stepS b e all r)
    have := stepS_len b e all r
    rw [runS, List.length_cons]; omega
theorem opensF_lt (κ : K3) : ∀ (l : List (St × Bool)) (n : Nat), ∀ i ∈ opensF κ n l, n ≤ i ∧ i < n + l.length
  | [], _, i, h => by simp [opensF] at h
  | x :: l, n, i, h => by
    rw [opensF] at h
    rw [List.length_cons]
    split at h
    · rcases List.mem_cons.1 h with rfl | h
      · omega
      · have := opensF_lt κ l (n + 1) i h; omega
    · have := opensF_lt κ l (n + 1) i h; omega
theorem opensF_len (κ : K3) : ∀ (l : List (St × Bool)) (n : Nat), (opensF κ n l).length ≤ l.length
  | [], _ => by simp [opensF]
  | x :: l, n => by
    have := opensF_len κ l (n + 1)
    rw [opensF]
    split
    · simp only [List.length_cons]; omega
    · simp only [List.length_cons]; omega
theorem opensF_at (κ : K3) : ∀ (l : List (St × Bool)) (n : Nat), ∀ i ∈ opensF κ n l, ∃ s, l[i - n]? = some (s, false) ∧ s.key = κ
  | [], _, i, h => by simp [opensF] at h
  | x :: l, n, i, h => by
    rw [opensF] at h
    have rest : ∀ j ∈ opensF κ (n + 1) l, ∃ s, (x :: l)[j - n]? = some (s, false) ∧ s.key = κ := fun j hj => by
      obtain ⟨s, h1, h2⟩ := opensF_at κ l (n + 1) j hj
      have := opensF_lt κ l (n + 1) j hj
      refine ⟨s, ?_, h2⟩
      rw [show j - n = (j - (n + 1)) + 1 by omega, List.getElem?_cons_succ]
      exact h1
    split at h
    · rename_i hc
      rcases List.mem_cons.1 h with rfl | h
      · simp only [Bool.and_eq_true, Bool.not_eq_true'] at hc
        refine ⟨x.1, ?_, sameK_iff.1 hc.2⟩
        rw [Nat.sub_self]
        simp only [List.getElem?_cons_zero]
        rw [← hc.1]
      · exact rest i h
    · exact rest i h
theorem opensF_snoc (κ : K3) (s : St) : ∀ (l : List (St × Bool)) (n : Nat), opensF κ n (l ++ [(s, false)]) = opensF κ n l ++ (if sameK s.key κ = true then [n + l.length] else [])
  | [], n => by
    rw [List.nil_append, opensF]
    by_cases h : sameK s.key κ = true
    · simp [h, opensF]
    · simp [h, opensF]
  | x :: l, n => by
    rw [List.cons_append, opensF, opensF, opensF_snoc κ s l (n + 1), List.length_cons]
    have e : n + 1 + l.length = n + (l.length + 1) := by omega
    rw [e]
    split <;> simp
theorem opensF_other {κ : K3} (t : Int) : ∀ (l : List (St × Bool)) (n i : Nat), (∀ s d, l[i]? = some (s, d) → s.key ≠ κ) → opensF κ n (closeAt i t l) = opensF κ n l
  | [], n, i, _ => by cases i <;> rfl
  | x :: l, n, 0, h => by
    have hk : sameK x.1.key κ = false := by
      rw [Bool.eq_false_iff]
      intro h2
      exact h x.1 x.2 rfl (sameK_iff.1 h2)
    rw [closeAt, opensF, opensF, hk]
    simp [shut]
  | x :: l, n, i + 1, h => by
    rw [closeAt, opensF, opensF, opensF_other t l (n + 1) i (fun s d hs => h s d (by rw [List.getElem?_cons_succ]; exact hs))]
theorem opensF_same {κ : K3} (t : Int) : ∀ (l : List (St × Bool)) (n i : Nat) (rest : List Nat), opensF κ n l = i :: rest → opensF κ n (closeAt (i - n) t l) = rest
  | [], n, i, rest, h => by simp [opensF] at h
  | x :: l, n, i, rest, h => by
    rw [opensF] at h
    by_cases hc : (!x.2 && sameK x.1.key κ) = true
    · rw [if_pos hc] at h
      simp only [List.cons.injEq] at h
      obtain ⟨rfl, rfl⟩ := h
      rw [Nat.sub_self, closeAt, opensF, if_neg (by simp [shut])]
    · rw [if_neg hc] at h
      have := opensF_lt κ l (n + 1) i (by rw [h]; simp)
      rw [show i - n = (i - (n + 1)) + 1 by omega, closeAt, opensF, if_neg hc]
      exact opensF_same t l (n + 1) i rest h

/-! ### What the stays come from -/
theorem closeAt_mem : ∀ (i : Nat) (t : Int) (l : List (St × Bool)) (x : St × Bool), x ∈ closeAt i t l → x ∈ l ∨ ∃ y, l[i]? = some y ∧ x = shut t y
  | _, _, [], x, h => by simp [closeAt] at h
  | 0, t, y :: l, x, h => by
    rw [closeAt] at h
    rcases List.mem_cons.1 h with rfl | h
    · exact .inr ⟨y, rfl, rfl⟩
    · exact .inl (List.mem_cons_of_mem _ h)
  | i + 1, t, y :: l, x, h => by
    rw [closeAt] at h
    rcases List.mem_cons.1 h with rfl | h
    · exact .inl (by simp)
    · rcases closeAt_mem i t l x h with h | ⟨z, h1, h2⟩
      · exact .inl (List.mem_cons_of_mem _ h)
      · exact .inr ⟨z, by rw [List.getElem?_cons_succ]; exact h1, h2⟩
theorem closeAt_shut : ∀ (i : Nat) (t : Int) (l : List (St × Bool)), ((closeAt i t l).filter (·.2)).length ≤ (l.filter (·.2)).length + 1
  | _, _, [] => by simp [closeAt]
  | 0, t, y :: l => by
    rw [closeAt]
    simp only [List.filter_cons]
    cases y.2 <;> simp [shut]
  | i + 1, t, y :: l => by
    have := closeAt_shut i t l
    rw [closeAt]
    simp only [List.filter_cons]
    cases y.2 <;> simp <;> omega
def kindN (w : Int) (l : List Rc) : Nat := l.countP fun r => r.what == w
structure From (b e : Int) (l : List Rc) (all : List (St × Bool)) : Prop where
  begun : ∀ x ∈ all, ∃ r ∈ l, r.what = b ∧ r.key = x.1.key ∧ r.time = x.1.frm
  ended : ∀ x ∈ all, x.2 = true → ∃ r ∈ l, r.what = e ∧ r.key = x.1.key ∧ r.time = x.1.til
  begins : all.length ≤ kindN b l
  ends : (all.filter (·.2)).length ≤ kindN e l
theorem from_step {b e : Int} {l : List Rc} {all : List (St × Bool)} (h : From b e l all) (r : Rc) : From b e (l ++ [r]) (stepS b e all r) := by
  have more : ∀ {P : Rc → Prop}, (∃ x ∈ l, P x) → ∃ x ∈ l ++ [r], P x := fun ⟨x, h1, h2⟩ => ⟨x, List.mem_append_left _ h1, h2⟩
  have cb : kindN b (l ++ [r]) = kindN b l + (if r.what = b then 1 else 0) := by
    unfold kindN; rw [List.countP_append, List.countP_singleton]; simp
  have ce : kindN e (l ++ [r]) = kindN e l + (if r.what = e then 1 else 0) := by
    unfold kindN; rw [List.countP_append, List.countP_singleton]; simp
  unfold stepS
  split
  · rename_i i rest hi
    have hw : r.what = e := by
      by_cases hw : r.what = e
      · exact hw
      · rw [if_neg hw] at hi; cases hi
    rw [if_pos hw] at hi
    obtain ⟨s, hs, hk⟩ := opensF_at r.key all 0 i (by rw [hi]; simp)
    rw [Nat.sub_zero] at hs
    refine ⟨fun x hx => ?_, fun x hx hd => ?_, ?_, ?_⟩
    · rcases closeAt_mem _ _ _ _ hx with hx | ⟨y, hy, rfl⟩
      · exact more (h.begun x hx)
      · exact more (h.begun y (List.mem_of_getElem? hy))
    · rcases closeAt_mem _ _ _ _ hx with hx | ⟨y, hy, rfl⟩
      · exact more (h.ended x hx hd)
      · rw [hs] at hy
        cases hy
        exact ⟨r, by simp, hw, hk.symm, rfl⟩
    · rw [closeAt_len, cb]; have := h.begins; omega
    · rw [ce, if_pos hw]; have := h.ends; have := closeAt_shut i r.time all; omega
  · split
    · rename_i hw
      refine ⟨fun x hx => ?_, fun x hx hd => ?_, ?_, ?_⟩
      · rcases List.mem_append.1 hx with hx | hx
        · exact more (h.begun x hx)
        · simp at hx
          subst hx
          exact ⟨r, by simp, hw, rfl, rfl⟩
      · rcases List.mem_append.1 hx with hx | hx
        · exact more (h.ended x hx hd)
        · simp at hx
          subst hx
          cases hd
      · rw [List.length_append, cb, if_pos hw]; have := h.begins; simp; omega
      · rw [List.filter_append, ce]; have := h.ends; simp; omega
    · refine ⟨fun x hx => more (h.begun x hx), fun x hx hd => more (h.ended x hx hd), ?_, ?_⟩
      · rw [cb]; have := h.begins; omega
      · rw [ce]; have := h.ends; omega
theorem from_run (b e : Int) : ∀ (m l : List Rc) (all : List (St × Bool)), From b e l all → From b e (l ++ m) (runS b e all m)
  | [], l, all, h => by rw [List.append_nil]; exact h
  | r :: m, l, all, h => by
    have := from_run b e m (l ++ [r]) _ (from_step h r)
    rw [List.append_assoc] at this
    exact this
theorem stays_from (l : List Rc) (b e : Int) : From b e l (runS b e [] l) := by
  have := from_run b e l [] [] ⟨fun x hx => by simp at hx, fun x hx => by simp at hx, Nat.zero_le _, by simp⟩
  exact this
end Go.Proofs.Ytojadmccenkffaa.Qr
