/- The plain law of chapter 19 (flow): the functions that the program and the reference compute, as functions on lists, and that they agree. No program in sight. -/
namespace Go.Proofs.Ytnbaofkgakgpgaa.Fl

abbrev Rt := List (Int × Int)
def opOf (I : Rt) (i : Nat) : Int := (I.getD i (0, 0)).1
def arOf (I : Rt) (i : Nat) : Int := (I.getD i (0, 0)).2
def pz (o : Int) : Bool := o == 6 || o == 7 || o == 9 || o == 10 || o == 11 || o == 12 || o == 19
def vld (n : Nat) (i : Int) : Bool := decide (0 ≤ i) && decide (i < n)
theorem vld_iff {n : Nat} {i : Int} : vld n i = true ↔ 0 ≤ i ∧ i < n := by simp [vld]
theorem vld_nat {n i : Nat} : vld n (i : Int) = true ↔ i < n := by rw [vld_iff]; omega

def onlyStep (n : Nat) (acc : List Int) (i : Int) : List Int := if vld n i && (acc.getLast? != some i) then acc ++ [i] else acc
def onlyTo (n : Nat) (l : List Int) : Nat → List Int
  | 0 => []
  | k + 1 => onlyStep n (onlyTo n l k) (l.getD k 0)
def onlyL (n : Nat) (l : List Int) : List Int := onlyTo n l l.length
def nextL (I : Rt) (i : Int) : List Int :=
  if vld I.length i then
    if opOf I i.toNat == 19 then [] else
    if opOf I i.toNat == 4 then onlyL I.length [arOf I i.toNat] else
    if opOf I i.toNat == 5 then onlyL I.length [min (i + 1) (arOf I i.toNat), max (i + 1) (arOf I i.toNat)] else onlyL I.length [i + 1]
  else []

theorem onlyStep_mem {n : Nat} {acc : List Int} {i j : Int} (h : j ∈ onlyStep n acc i) : j ∈ acc ∨ (j = i ∧ 0 ≤ i ∧ i < n) := by
  unfold onlyStep at h
  split at h
  · rename_i hc
    simp only [Bool.and_eq_true, vld_iff] at hc
    simp only [List.mem_append, List.mem_singleton] at h
    rcases h with h | h
    · exact .inl h
    · exact .inr ⟨h, hc.1⟩
  · exact .inl h
theorem onlyTo_mem {n : Nat} {l : List Int} : ∀ {k : Nat} {j : Int}, j ∈ onlyTo n l k → 0 ≤ j ∧ j < n
  | 0, j, h => by simp [onlyTo] at h
  | k + 1, j, h => by
    rcases onlyStep_mem h with h | ⟨e, h⟩
    · exact onlyTo_mem h
    · rw [e]; exact h
theorem onlyStep_len (n : Nat) (acc : List Int) (i : Int) : (onlyStep n acc i).length ≤ acc.length + 1 := by
  unfold onlyStep; split <;> simp
theorem onlyTo_len (n : Nat) (l : List Int) : ∀ k, (onlyTo n l k).length ≤ k
  | 0 => by simp [onlyTo]
  | k + 1 => by
    have := onlyStep_len n (onlyTo n l k) (l.getD k 0)
    have := onlyTo_len n l k
    simp only [onlyTo]; omega
theorem onlyL_len (n : Nat) (l : List Int) : (onlyL n l).length ≤ l.length := onlyTo_len n l _
theorem onlyL_one (n : Nat) (a : Int) : onlyL n [a] = onlyStep n [] a := rfl
theorem onlyL_two (n : Nat) (a b : Int) : onlyL n [a, b] = onlyStep n (onlyStep n [] a) b := rfl
theorem onlyStep_nil (n : Nat) (a : Int) : onlyStep n [] a = if vld n a then [a] else [] := by simp [onlyStep]

theorem nextL_mem {I : Rt} {i j : Int} (h : j ∈ nextL I i) : 0 ≤ j ∧ j < I.length := by
  unfold nextL at h
  split at h
  · split at h
    · simp at h
    · split at h
      · exact onlyTo_mem h
      · split at h <;> exact onlyTo_mem h
  · simp at h
theorem nextL_len (I : Rt) (i : Int) : (nextL I i).length ≤ 2 := by
  unfold nextL
  split
  · split
    · simp
    · split
      · exact Nat.le_trans (onlyL_len _ _) (by simp)
      · split <;> exact Nat.le_trans (onlyL_len _ _) (by simp)
  · simp
theorem nextL_vld {I : Rt} {i j : Int} (h : j ∈ nextL I i) : 0 ≤ i ∧ i < I.length := by
  unfold nextL at h
  split at h
  · rename_i hc; exact vld_iff.1 hc
  · simp at h
theorem only_two_lt {n : Nat} {a b : Int} (hab : a ≤ b) (k : Nat) (hk : k + 1 < (onlyL n [a, b]).length) : (onlyL n [a, b]).getD k 0 < (onlyL n [a, b]).getD (k + 1) 0 := by
  have hcase : (onlyL n [a, b]).length ≤ 1 ∨ (onlyL n [a, b] = [a, b] ∧ a ≠ b) := by
    rw [onlyL_two, onlyStep_nil]
    unfold onlyStep
    by_cases ha : vld n a = true <;> by_cases hb : vld n b = true <;> by_cases e : a = b <;> simp [ha, hb, e]
  rcases hcase with h | ⟨h, hne⟩
  · omega
  · rw [h] at hk ⊢
    simp only [List.length_cons, List.length_nil] at hk
    have : k = 0 := by omega
    subst this
    simp
    omega
theorem nextL_lt {I : Rt} {i : Int} (k : Nat) (hk : k + 1 < (nextL I i).length) : (nextL I i).getD k 0 < (nextL I i).getD (k + 1) 0 := by
  unfold nextL at hk ⊢
  split
  · rename_i hv
    simp only [hv, if_true] at hk
    split
    · rename_i h; simp [h] at hk
    · rename_i h19
      simp only [h19] at hk
      split
      · rename_i h; simp only [h, if_true] at hk
        have := onlyL_len I.length [arOf I i.toNat]
        simp at this hk
        omega
      · rename_i h4
        simp only [h4] at hk
        split
        · rename_i h; simp only [h, if_true] at hk
          exact only_two_lt (by omega) k (by simpa using hk)
        · rename_i h; simp only [h] at hk
          have := onlyL_len I.length [i + 1]
          simp at this hk
          omega
  · rename_i hv; simp [hv] at hk

/-! ### Sets of instructions as lists of bools -/
def has (S : List Bool) (j : Nat) : Prop := S.getD j false = true
instance (S : List Bool) (j : Nat) : Decidable (has S j) := inferInstanceAs (Decidable (_ = _))
theorem has_lt {S : List Bool} {j : Nat} (h : has S j) : j < S.length := by
  rcases Nat.lt_or_ge j S.length with h' | h'
  · exact h'
  · simp [has, List.getD, List.getElem?_eq_none h'] at h
theorem has_set {S : List Bool} {i j : Nat} (hi : i < S.length) : has (S.set i true) j ↔ has S j ∨ j = i := by
  unfold has
  simp only [List.getD_eq_getElem?_getD, List.getElem?_set]
  by_cases h : i = j
  · subst h; simp [hi]
  · simp [h]; intro e; exact absurd e.symm h
theorem not_has_replicate (n j : Nat) : ¬ has (List.replicate n false) j := by
  unfold has
  simp only [List.getD_eq_getElem?_getD, List.getElem?_replicate]
  split <;> simp
theorem ext_has {S T : List Bool} (hl : S.length = T.length) (h : ∀ j, j < S.length → (has S j ↔ has T j)) : S = T := by
  apply List.ext_getElem hl
  intro i h1 h2
  have := h i h1
  simp only [has, List.getD_eq_getElem?_getD, List.getElem?_eq_getElem h1, List.getElem?_eq_getElem h2, Option.getD_some] at this
  exact Bool.eq_iff_iff.2 this

def cnt : List Bool → Nat
  | [] => 0
  | b :: l => (if b then 1 else 0) + cnt l
theorem cnt_le : ∀ S : List Bool, cnt S ≤ S.length
  | [] => by simp [cnt]
  | b :: l => by have := cnt_le l; simp only [cnt, List.length_cons]; split <;> omega
theorem has_zero {b : Bool} {l : List Bool} : has (b :: l) 0 ↔ b = true := by simp [has]
theorem has_succ {b : Bool} {l : List Bool} {j : Nat} : has (b :: l) (j + 1) ↔ has l j := by simp [has]
theorem cnt_mono : ∀ {S T : List Bool}, S.length = T.length → (∀ j, has S j → has T j) → cnt S ≤ cnt T
  | [], [], _, _ => Nat.le_refl _
  | a :: S, b :: T, hl, h => by
    have ih := cnt_mono (S := S) (T := T) (by simpa using hl) (fun j hj => has_succ.1 (h (j + 1) (has_succ.2 hj)))
    have h0 : a = true → b = true := fun ha => has_zero.1 (h 0 (has_zero.2 ha))
    simp only [cnt]
    cases a <;> cases b <;> simp_all <;> omega
theorem cnt_lt : ∀ {S T : List Bool} (_ : S.length = T.length) (_ : ∀ j, has S j → has T j) (j : Nat) (_ : has T j) (_ : ¬ has S j), cnt S < cnt T
  | [], [], _, _, j, hj, _ => by simp [has] at hj
  | a :: S, b :: T, hl, h, 0, hj, hn => by
    have ih := cnt_mono (S := S) (T := T) (by simpa using hl) (fun j hj => has_succ.1 (h (j + 1) (has_succ.2 hj)))
    rw [has_zero] at hj hn
    simp only [cnt]
    simp_all
    omega
  | a :: S, b :: T, hl, h, j + 1, hj, hn => by
    have ih := cnt_lt (S := S) (T := T) (by simpa using hl) (fun j hj => has_succ.1 (h (j + 1) (has_succ.2 hj))) j (has_succ.1 hj) (fun e => hn (has_succ.2 e))
    have h0 : a = true → b = true := fun ha => has_zero.1 (h 0 (has_zero.2 ha))
    simp only [cnt]
    cases a <;> cases b <;> simp_all <;> omega
theorem cnt_full {S : List Bool} {j : Nat} (hj : j < S.length) (hn : ¬ has S j) : cnt S < S.length := by
  have h := cnt_lt (S := S) (T := List.replicate S.length true) (by simp) (fun k hk => by
    have := has_lt hk
    simp [has, this]) j (by simp [has, hj]) hn
  have h2 := cnt_le (List.replicate S.length true)
  simp only [List.length_replicate] at h2
  omega

/-! ### The reference's marks -/
def markTo (S : List Bool) (l : List Int) : Nat → List Bool
  | 0 => S
  | k + 1 => (markTo S l k).set (l.getD k 0).toNat true
def mark (S : List Bool) (l : List Int) : List Bool := markTo S l l.length
theorem markTo_len (S : List Bool) (l : List Int) : ∀ k, (markTo S l k).length = S.length
  | 0 => rfl
  | k + 1 => by simp [markTo, markTo_len S l k]
theorem mark_len (S : List Bool) (l : List Int) : (mark S l).length = S.length := markTo_len _ _ _
theorem markTo_has {S : List Bool} {l : List Int} (hl : ∀ j ∈ l, 0 ≤ j ∧ j < S.length) : ∀ {k : Nat}, k ≤ l.length → ∀ {j : Nat}, has (markTo S l k) j ↔ has S j ∨ (j : Int) ∈ l.take k
  | 0, _, j => by simp [markTo]
  | k + 1, hk, j => by
    have hk' : k < l.length := hk
    have hm := hl (l.getD k 0) (by simp [List.getD_eq_getElem?_getD, hk'])
    rw [markTo, has_set (by rw [markTo_len]; omega), markTo_has hl (by omega), List.take_succ_eq_append_getElem hk', List.mem_append, List.mem_singleton]
    have e : l.getD k 0 = l[k] := by simp [List.getD_eq_getElem?_getD, hk']
    rw [e] at hm ⊢
    constructor
    · rintro ((h | h) | h)
      · exact .inl h
      · exact .inr (.inl h)
      · exact .inr (.inr (by omega))
    · rintro (h | h | h)
      · exact .inl (.inl h)
      · exact .inl (.inr h)
      · exact .inr (by omega)
theorem mark_has {S : List Bool} {l : List Int} (hl : ∀ j ∈ l, 0 ≤ j ∧ j < S.length) {j : Nat} : has (mark S l) j ↔ has S j ∨ (j : Int) ∈ l := by
  have := markTo_has hl (Nat.le_refl _) (j := j)
  rwa [List.take_length] at this

def Edge (I : Rt) (i j : Nat) : Prop := (j : Int) ∈ nextL I i
theorem Edge.lt {I : Rt} {i j : Nat} (h : Edge I i j) : i < I.length ∧ j < I.length := by
  have h1 := nextL_mem h
  have h2 := nextL_vld h
  omega
def stops (I : Rt) (calm : Bool) (i : Nat) : Bool := calm && pz (opOf I i)

def sweep1 (I : Rt) (calm : Bool) (S : List Bool) (i : Nat) : List Bool := if S.getD i false && !stops I calm i then mark S (nextL I i) else S
def sweepTo (I : Rt) (calm : Bool) (S : List Bool) : Nat → List Bool
  | 0 => S
  | k + 1 => sweep1 I calm (sweepTo I calm S k) k
def roundsTo (I : Rt) (calm : Bool) (S : List Bool) : Nat → List Bool
  | 0 => S
  | r + 1 => sweepTo I calm (roundsTo I calm S r) S.length
def rspread (I : Rt) (calm : Bool) (S : List Bool) : List Bool := roundsTo I calm S S.length

theorem sweep1_len (I : Rt) (calm : Bool) (S : List Bool) (i : Nat) : (sweep1 I calm S i).length = S.length := by
  unfold sweep1; split
  · exact mark_len _ _
  · rfl
theorem sweepTo_len (I : Rt) (calm : Bool) (S : List Bool) : ∀ k, (sweepTo I calm S k).length = S.length
  | 0 => rfl
  | k + 1 => by rw [sweepTo, sweep1_len, sweepTo_len I calm S k]
theorem roundsTo_len (I : Rt) (calm : Bool) (S : List Bool) : ∀ k, (roundsTo I calm S k).length = S.length
  | 0 => rfl
  | k + 1 => by rw [roundsTo, sweepTo_len, roundsTo_len I calm S k]
theorem rspread_len (I : Rt) (calm : Bool) (S : List Bool) : (rspread I calm S).length = S.length := roundsTo_len _ _ _ _

/-- What can be reached from marks, through instructions that do not stop. -/
inductive Rch (I : Rt) (calm : Bool) (F : Nat → Prop) : Nat → Prop
  | base {j : Nat} : F j → Rch I calm F j
  | step {i j : Nat} : Rch I calm F i → stops I calm i = false → Edge I i j → Rch I calm F j

section
variable {I : Rt} {calm : Bool}
theorem sweep1_has {S : List Bool} (hS : S.length = I.length) {i j : Nat} : has (sweep1 I calm S i) j ↔ has S j ∨ (has S i ∧ stops I calm i = false ∧ Edge I i j) := by
  unfold sweep1
  by_cases h : (S.getD i false && !stops I calm i) = true
  · rw [if_pos h, mark_has (fun j hj => by rw [hS]; exact nextL_mem hj)]
    simp only [Bool.and_eq_true, Bool.not_eq_true'] at h
    simp only [Edge, has, h, true_and]
  · rw [if_neg h]
    simp only [Bool.and_eq_true, Bool.not_eq_true'] at h
    constructor
    · exact .inl
    · rintro (h' | ⟨a, b, _⟩)
      · exact h'
      · exact absurd ⟨a, b⟩ h
theorem sweepTo_mono {S : List Bool} (hS : S.length = I.length) {k j : Nat} (h : has S j) : has (sweepTo I calm S k) j := by
  induction k with
  | zero => exact h
  | succ k ih => exact (sweep1_has (by rw [sweepTo_len, hS])).2 (.inl ih)
theorem sweepTo_le {S : List Bool} (hS : S.length = I.length) {k m j : Nat} (hkm : k ≤ m) (h : has (sweepTo I calm S k) j) : has (sweepTo I calm S m) j := by
  induction m with
  | zero => have : k = 0 := by omega
            subst this; exact h
  | succ m ih =>
    by_cases e : k = m + 1
    · subst e; exact h
    · exact (sweep1_has (by rw [sweepTo_len, hS])).2 (.inl (ih (by omega)))
theorem roundsTo_mono {S : List Bool} (hS : S.length = I.length) {k j : Nat} (h : has S j) : has (roundsTo I calm S k) j := by
  induction k with
  | zero => exact h
  | succ k ih => exact sweepTo_mono (by rw [roundsTo_len, hS]) ih
theorem sweepTo_sound {S : List Bool} (hS : S.length = I.length) {F : Nat → Prop} (h : ∀ j, has S j → Rch I calm F j) : ∀ {k j : Nat}, has (sweepTo I calm S k) j → Rch I calm F j
  | 0, j, hj => h j hj
  | k + 1, j, hj => by
    rcases (sweep1_has (by rw [sweepTo_len, hS])).1 hj with hj | ⟨h1, h2, h3⟩
    · exact sweepTo_sound hS h hj
    · exact .step (sweepTo_sound hS h h1) h2 h3
theorem roundsTo_sound {S : List Bool} (hS : S.length = I.length) : ∀ {k j : Nat}, has (roundsTo I calm S k) j → Rch I calm (has S) j
  | 0, _, hj => .base hj
  | k + 1, _, hj => sweepTo_sound (by rw [roundsTo_len, hS]) (fun _ h => roundsTo_sound hS h) hj
def Closed (I : Rt) (calm : Bool) (S : List Bool) : Prop := ∀ i j, has S i → stops I calm i = false → Edge I i j → has S j
theorem closed_of_fix {S : List Bool} (hS : S.length = I.length) (h : ∀ j, has (sweepTo I calm S S.length) j → has S j) : Closed I calm S := by
  intro i j hi hs he
  have hl := has_lt hi
  apply h
  apply sweepTo_le hS (k := i + 1) (by omega)
  exact (sweep1_has (by rw [sweepTo_len, hS])).2 (.inr ⟨sweepTo_mono hS hi, hs, he⟩)
theorem fix_of_closed {S : List Bool} (hS : S.length = I.length) (h : Closed I calm S) : ∀ {k j : Nat}, has (sweepTo I calm S k) j → has S j
  | 0, _, hj => hj
  | k + 1, j, hj => by
    rcases (sweep1_has (by rw [sweepTo_len, hS])).1 hj with hj | ⟨h1, h2, h3⟩
    · exact fix_of_closed hS h hj
    · exact h _ _ (fix_of_closed hS h h1) h2 h3
theorem rounds_progress {S : List Bool} (hS : S.length = I.length) : ∀ r, Closed I calm (roundsTo I calm S r) ∨ cnt S + r ≤ cnt (roundsTo I calm S r)
  | 0 => .inr (by simp [roundsTo])
  | r + 1 => by
    have hl : (roundsTo I calm S r).length = I.length := by rw [roundsTo_len, hS]
    have hl' : (roundsTo I calm S (r + 1)).length = I.length := by rw [roundsTo_len, hS]
    by_cases hc : Closed I calm (roundsTo I calm S r)
    · left
      have e : roundsTo I calm S (r + 1) = roundsTo I calm S r := ext_has (by rw [hl, hl']) fun j _ => ⟨fun h => fix_of_closed hl hc h, fun h => sweepTo_mono hl h⟩
      rw [e]; exact hc
    · right
      have hp := (rounds_progress hS r).resolve_left hc
      have : ∃ j, has (roundsTo I calm S (r + 1)) j ∧ ¬ has (roundsTo I calm S r) j := by
        apply Classical.byContradiction
        intro hne
        apply hc
        apply closed_of_fix hl
        intro j hj
        rw [show (roundsTo I calm S r).length = S.length by rw [roundsTo_len]] at hj
        exact Classical.byContradiction fun hn => hne ⟨j, hj, hn⟩
      obtain ⟨j, h1, h2⟩ := this
      have := cnt_lt (S := roundsTo I calm S r) (T := roundsTo I calm S (r + 1)) (by rw [hl, hl']) (fun j h => sweepTo_mono hl h) j h1 h2
      omega
theorem has_of_cnt {S : List Bool} {j : Nat} (h : has S j) : 0 < cnt S := by
  have := cnt_lt (S := List.replicate S.length false) (T := S) (by simp) (fun k hk => absurd hk (not_has_replicate _ _)) j h (not_has_replicate _ _)
  omega
theorem rspread_closed {S : List Bool} (hS : S.length = I.length) : Closed I calm (rspread I calm S) := by
  rcases rounds_progress (calm := calm) hS S.length with h | h
  · exact h
  · have hle := cnt_le (roundsTo I calm S S.length)
    rw [roundsTo_len] at hle
    have hnone : ∀ j, ¬ has S j := fun j hj => by have := has_of_cnt hj; omega
    intro i j hi _ _
    have hr := roundsTo_sound hS hi
    exfalso
    induction hr with
    | base h => exact hnone _ h
    | step h1 h2 h3 ih =>
      exact absurd hi (by
        intro _
        have : ∀ {k}, Rch I calm (has S) k → False := fun h => by
          induction h with
          | base h => exact hnone _ h
          | step _ _ _ ih => exact ih
        exact this h1)
/-- WHAT THE REFERENCE MARKS. -/
theorem rspread_has {S : List Bool} (hS : S.length = I.length) {j : Nat} : has (rspread I calm S) j ↔ Rch I calm (has S) j := by
  constructor
  · exact roundsTo_sound hS
  · intro h
    induction h with
    | base h => exact roundsTo_mono hS h
    | step _ h2 h3 ih => exact rspread_closed hS _ _ ih h2 h3
end

/-! ### The program's search -/
inductive RchQ (I : Rt) (quiet : Bool) (F : List Int) : Nat → Prop
  | base {j : Nat} : (j : Int) ∈ F → stops I quiet j = false → RchQ I quiet F j
  | step {i j : Nat} : RchQ I quiet F i → Edge I i j → stops I quiet j = false → RchQ I quiet F j

/-- The state of the search: what is seen, what is to do. -/
structure Sea (I : Rt) (quiet : Bool) (F : List Int) (S : List Bool) (T : List Int) : Prop where
  len : S.length = I.length
  lo : ∀ t ∈ T, 0 ≤ t ∧ t < I.length
  seen : ∀ j, has S j → RchQ I quiet F j
  todo : ∀ j : Nat, (j : Int) ∈ T → stops I quiet j = false → RchQ I quiet F j
  start : ∀ j : Nat, (j : Int) ∈ F → stops I quiet j = false → has S j ∨ (j : Int) ∈ T
  next : ∀ i j : Nat, has S i → Edge I i j → stops I quiet j = false → has S j ∨ (j : Int) ∈ T
  size : T.length ≤ cnt S + F.length

section
variable {I : Rt} {quiet : Bool} {F : List Int} {S : List Bool} {T : List Int}
theorem cnt_replicate : ∀ n, cnt (List.replicate n false) = 0
  | 0 => rfl
  | n + 1 => by simp [List.replicate_succ, cnt, cnt_replicate n]
theorem Sea.init (hF : ∀ t ∈ F, 0 ≤ t ∧ t < I.length) : Sea I quiet F (List.replicate I.length false) F :=
  ⟨by simp, hF, fun j h => absurd h (not_has_replicate _ _), fun j h hs => .base h hs, fun j h _ => .inr h, fun i j h => absurd h (not_has_replicate _ _), by omega⟩
theorem cnt_set : ∀ {S : List Bool} {i : Nat}, i < S.length → ¬ has S i → cnt (S.set i true) = cnt S + 1
  | b :: l, 0, _, hn => by
    rw [has_zero] at hn
    simp [cnt, hn]; omega
  | b :: l, i + 1, hi, hn => by
    have := cnt_set (S := l) (i := i) (by simpa using hi) (fun e => hn (has_succ.2 e))
    simp only [List.set_cons_succ, cnt, this]; omega
theorem Sea.skip {i : Nat} (h : Sea I quiet F S (T ++ [(i : Int)])) (hi : has S i ∨ stops I quiet i = true) : Sea I quiet F S T := by
  refine ⟨h.len, fun t ht => h.lo t (by simp [ht]), h.seen, fun j hj => h.todo j (by simp [hj]), fun j hj hs => ?_, fun a j ha he hs => ?_, by have := h.size; simp at this; omega⟩
  · rcases h.start j hj hs with h' | h'
    · exact .inl h'
    · simp only [List.mem_append, List.mem_singleton] at h'
      rcases h' with h' | h'
      · exact .inr h'
      · have : j = i := by omega
        subst this
        exact .inl (hi.resolve_right (by simp [hs]))
  · rcases h.next a j ha he hs with h' | h'
    · exact .inl h'
    · simp only [List.mem_append, List.mem_singleton] at h'
      rcases h' with h' | h'
      · exact .inr h'
      · have : j = i := by omega
        subst this
        exact .inl (hi.resolve_right (by simp [hs]))
theorem Sea.visit {i : Nat} (h : Sea I quiet F S (T ++ [(i : Int)])) (hi : ¬ has S i) (hst : stops I quiet i = false) : Sea I quiet F (S.set i true) (T ++ nextL I i) := by
  have hlt : i < S.length := by have := (h.lo i (by simp)).2; have := h.len; omega
  have hr : RchQ I quiet F i := h.todo i (by simp) hst
  refine ⟨by simpa using h.len, fun t ht => ?_, fun j hj => ?_, fun j hj hs => ?_, fun j hj hs => ?_, fun a j ha he hs => ?_, ?_⟩
  · simp only [List.mem_append] at ht
    rcases ht with ht | ht
    · exact h.lo t (by simp [ht])
    · exact nextL_mem ht
  · rcases (has_set hlt).1 hj with hj | rfl
    · exact h.seen j hj
    · exact hr
  · simp only [List.mem_append] at hj
    rcases hj with hj | hj
    · exact h.todo j (by simp [hj]) hs
    · exact .step hr hj hs
  · rcases h.start j hj hs with h' | h'
    · exact .inl ((has_set hlt).2 (.inl h'))
    · simp only [List.mem_append, List.mem_singleton] at h' ⊢
      rcases h' with h' | h'
      · exact .inr (.inl h')
      · exact .inl ((has_set hlt).2 (.inr (by omega)))
  · rcases (has_set hlt).1 ha with ha | rfl
    · rcases h.next a j ha he hs with h' | h'
      · exact .inl ((has_set hlt).2 (.inl h'))
      · simp only [List.mem_append, List.mem_singleton] at h' ⊢
        rcases h' with h' | h'
        · exact .inr (.inl h')
        · exact .inl ((has_set hlt).2 (.inr (by omega)))
    · exact .inr (by simp only [List.mem_append]; exact .inr he)
  · have h1 := h.size
    have h2 := nextL_len I i
    rw [cnt_set hlt hi, List.length_append]
    rw [List.length_append, List.length_singleton] at h1
    omega
theorem Sea.done (h : Sea I quiet F S []) {j : Nat} : has S j ↔ RchQ I quiet F j := by
  constructor
  · exact h.seen j
  · intro hr
    induction hr with
    | base hf hs => exact (h.start _ hf hs).resolve_right (by simp)
    | step _ he hs ih => exact (h.next _ _ ih he hs).resolve_right (by simp)
end
/-- The two searches: at an instruction that does not stop they say the same. -/
theorem rchQ_iff {I : Rt} {q : Bool} {F : List Int} {j : Nat} (hs : stops I q j = false) : RchQ I q F j ↔ Rch I q (fun k => (k : Int) ∈ F) j := by
  constructor
  · intro h
    have : ∀ {j}, RchQ I q F j → Rch I q (fun k => (k : Int) ∈ F) j ∧ stops I q j = false := fun h => by
      induction h with
      | base h1 h2 => exact ⟨.base h1, h2⟩
      | step _ h2 h3 ih => exact ⟨.step ih.1 ih.2 h2, h3⟩
    exact (this h).1
  · intro h
    induction h with
    | base h => exact .base h hs
    | step h1 h2 h3 ih => exact .step (ih h2) h3 hs
theorem Rch.congr {I : Rt} {c : Bool} {F G : Nat → Prop} (h : ∀ j, F j → G j) {j : Nat} (hr : Rch I c F j) : Rch I c G j := by
  induction hr with
  | base hf => exact .base (h _ hf)
  | step _ h2 h3 ih => exact .step ih h2 h3

/-! ### Reach -/
def reach0 (n : Nat) : List Bool := if 0 < n then (List.replicate n false).set 0 true else []
def reachL (I : Rt) : List Bool := rspread I false (reach0 I.length)
theorem reach0_len (n : Nat) : (reach0 n).length = n := by unfold reach0; split <;> simp; omega
theorem reachL_len (I : Rt) : (reachL I).length = I.length := by rw [reachL, rspread_len, reach0_len]
theorem reach0_has {n j : Nat} : has (reach0 n) j ↔ (j : Int) ∈ onlyL n [0] := by
  rw [onlyL_one, onlyStep_nil]
  unfold reach0
  by_cases h : 0 < n
  · have : vld n 0 = true := by rw [vld_iff]; omega
    rw [if_pos h, has_set (by simpa using h)]
    simp only [this, if_true, List.mem_singleton]
    constructor
    · rintro (h | h)
      · exact absurd h (not_has_replicate _ _)
      · omega
    · intro h; exact .inr (by omega)
  · have : vld n 0 = false := by rw [Bool.eq_false_iff]; intro hv; rw [vld_iff] at hv; omega
    rw [if_neg h]
    simp [this, has]
theorem stops_false (I : Rt) (j : Nat) : stops I false j = false := rfl
theorem reachL_has {I : Rt} {j : Nat} : has (reachL I) j ↔ RchQ I false (onlyL I.length [0]) j := by
  rw [reachL, rspread_has (reach0_len _), rchQ_iff (stops_false I j)]
  exact ⟨Rch.congr fun j h => reach0_has.1 h, Rch.congr fun j h => reach0_has.2 h⟩
theorem reach_done {I : Rt} {S : List Bool} (h : Sea I false (onlyL I.length [0]) S []) : S = reachL I :=
  ext_has (by rw [h.len, reachL_len]) fun j _ => by rw [h.done, reachL_has]
theorem reachL_zero {I : Rt} (h : 0 < I.length) : has (reachL I) 0 := by
  rw [reachL, rspread_has (reach0_len _)]
  refine .base ?_
  unfold reach0
  rw [if_pos h, has_set (by simpa using h)]
  exact .inr rfl
theorem reachL_step {I : Rt} {i j : Nat} (h : has (reachL I) i) (he : Edge I i j) : has (reachL I) j := by
  rw [reachL, rspread_has (reach0_len _)] at *
  exact .step h (stops_false I i) he
theorem reachL_from {I : Rt} {j : Nat} (h : has (reachL I) j) (hj : j ≠ 0) : ∃ i, has (reachL I) i ∧ Edge I i j := by
  rw [reachL, rspread_has (reach0_len _)] at h
  cases h with
  | base h =>
    unfold reach0 at h
    split at h
    · rename_i hn
      rcases (has_set (by simpa using hn)).1 h with h | h
      · exact absurd h (not_has_replicate _ _)
      · exact absurd h hj
    · simp [has] at h
  | step h1 h2 h3 => exact ⟨_, by rw [reachL, rspread_has (reach0_len _)]; exact h1, h3⟩

/-! ### Spins -/
def after (I : Rt) (i : Nat) : List Bool := rspread I true (mark (List.replicate I.length false) (nextL I i))
theorem after_len (I : Rt) (i : Nat) : (after I i).length = I.length := by simp [after, rspread_len, mark_len]
theorem after_has {I : Rt} {i j : Nat} : has (after I i) j ↔ Rch I true (Edge I i) j := by
  rw [after, rspread_has (by simp [mark_len])]
  have hm : ∀ k, has (mark (List.replicate I.length false) (nextL I i)) k ↔ Edge I i k := fun k => by
    rw [mark_has (fun j hj => by simpa using nextL_mem hj)]
    exact ⟨fun h => h.resolve_left (not_has_replicate _ _), .inr⟩
  exact ⟨Rch.congr fun j h => (hm j).1 h, Rch.congr fun j h => (hm j).2 h⟩
def spinsB (I : Rt) (i : Nat) : Bool := !pz (opOf I i) && (after I i).getD i false
def spinTo (I : Rt) : Nat → List Int
  | 0 => []
  | k + 1 => spinTo I k ++ if (reachL I).getD k false && spinsB I k then [(k : Int)] else []
def spinsL (I : Rt) : List Int := spinTo I I.length
theorem spinTo_mem {I : Rt} : ∀ {k : Nat} {j : Int}, j ∈ spinTo I k ↔ 0 ≤ j ∧ j < k ∧ has (reachL I) j.toNat ∧ spinsB I j.toNat = true
  | 0, j => by simp [spinTo]; omega
  | k + 1, j => by
    rw [spinTo, List.mem_append, spinTo_mem]
    constructor
    · rintro (⟨a, b, c⟩ | h)
      · exact ⟨a, by omega, c⟩
      · split at h
        · rename_i hc
          simp only [Bool.and_eq_true] at hc
          simp only [List.mem_singleton] at h
          subst h
          exact ⟨by omega, by omega, by simpa [has] using hc.1, by simpa using hc.2⟩
        · simp at h
    · rintro ⟨a, b, c, d⟩
      by_cases hj : j < k
      · exact .inl ⟨a, hj, c, d⟩
      · have : j = (k : Int) := by omega
        subst this
        simp only [Int.toNat_natCast] at c d
        right
        simp only [has] at c
        rw [c, d]
        simp
theorem spinTo_len (I : Rt) : ∀ k, (spinTo I k).length ≤ k
  | 0 => by simp [spinTo]
  | k + 1 => by
    have := spinTo_len I k
    rw [spinTo, List.length_append]
    split <;> simp <;> omega
theorem spinTo_lt {I : Rt} : ∀ {m : Nat} (k : Nat), k + 1 < (spinTo I m).length → (spinTo I m).getD k 0 < (spinTo I m).getD (k + 1) 0
  | 0, k, h => by simp [spinTo] at h
  | m + 1, k, h => by
    rw [spinTo] at h ⊢
    split
    · rename_i hc
      rw [if_pos hc, List.length_append] at h
      simp only [List.length_singleton] at h
      by_cases hk : k + 1 < (spinTo I m).length
      · have := spinTo_lt k hk
        simp only [List.getD_eq_getElem?_getD] at this ⊢
        rw [List.getElem?_append_left (by omega), List.getElem?_append_left hk]
        exact this
      · have hk' : k + 1 = (spinTo I m).length := by omega
        have hmem : (spinTo I m).getD k 0 ∈ spinTo I m := by
          have hlt : k < (spinTo I m).length := by omega
          rw [List.getD_eq_getElem?_getD, List.getElem?_eq_getElem hlt]
          simp
        have := (spinTo_mem.1 hmem).2.1
        simp only [List.getD_eq_getElem?_getD] at this ⊢
        rw [List.getElem?_append_left (by omega), List.getElem?_append_right (by omega), hk']
        simpa using this
    · rename_i hc
      rw [if_neg hc, List.append_nil] at h
      rw [List.append_nil]
      exact spinTo_lt k h
/-- What the program's search tells at an instruction that does not pause. -/
theorem spin_done {I : Rt} {i : Nat} {S : List Bool} (h : Sea I true (onlyL I.length (nextL I i)) S []) (hF : onlyL I.length (nextL I i) = nextL I i) (hp : pz (opOf I i) = false) : S.getD i false = spinsB I i := by
  have hs : stops I true i = false := by simp [stops, hp]
  have h1 : has S i ↔ has (after I i) i := by
    rw [h.done, rchQ_iff hs, after_has, hF]
    rfl
  simp only [has] at h1
  simp only [spinsB, hp, Bool.not_false, Bool.true_and]
  exact Bool.eq_iff_iff.2 h1
theorem onlyTo_self {n : Nat} {l : List Int} (hl : ∀ j ∈ l, 0 ≤ j ∧ j < n) (hlt : ∀ k, k + 1 < l.length → l.getD k 0 < l.getD (k + 1) 0) : ∀ {k : Nat}, k ≤ l.length → onlyTo n l k = l.take k
  | 0, _ => by simp [onlyTo]
  | k + 1, hk => by
    have hk' : k < l.length := hk
    rw [onlyTo, onlyTo_self hl hlt (by omega), List.take_succ_eq_append_getElem hk']
    have e : l.getD k 0 = l[k] := by simp [List.getD_eq_getElem?_getD, hk']
    have hv : vld n l[k] = true := vld_iff.2 (hl _ (List.getElem_mem hk'))
    have hne : (l.take k).getLast? ≠ some l[k] := by
      rw [List.getLast?_eq_getElem?, List.length_take, Nat.min_eq_left (by omega), List.getElem?_take]
      by_cases hz : k = 0
      · subst hz; simp
      · rw [if_pos (by omega)]
        have := hlt (k - 1) (by omega)
        rw [show k - 1 + 1 = k by omega, e] at this
        intro h
        simp only [List.getD_eq_getElem?_getD, h, Option.getD_some] at this
        omega
    rw [e]
    unfold onlyStep
    rw [if_pos (by simp [hv, hne])]
theorem only_next (I : Rt) (i : Int) : onlyL I.length (nextL I i) = nextL I i := by
  rw [onlyL, onlyTo_self (fun j hj => nextL_mem hj) (fun k hk => nextL_lt k hk) (Nat.le_refl _), List.take_length]

/-! ### What spins -/
theorem Rch.pre {I : Rt} {c : Bool} {F : Nat → Prop} {j : Nat} (h : Rch I c F j) : F j ∨ ∃ i, Rch I c F i ∧ stops I c i = false ∧ Edge I i j := by
  cases h with
  | base h => exact .inl h
  | step h1 h2 h3 => exact .inr ⟨_, h1, h2, h3⟩
theorem Rch.trans {I : Rt} {c : Bool} {F G : Nat → Prop} (h : ∀ j, F j → Rch I c G j) {j : Nat} (hr : Rch I c F j) : Rch I c G j := by
  induction hr with
  | base hf => exact h _ hf
  | step _ h2 h3 ih => exact .step ih h2 h3
theorem stops_true (I : Rt) (i : Nat) : stops I true i = pz (opOf I i) := rfl
def Spin (I : Rt) (i : Nat) : Prop := has (reachL I) i ∧ pz (opOf I i) = false ∧ Rch I true (Edge I i) i
theorem mem_spins {I : Rt} {i : Nat} : (i : Int) ∈ spinsL I ↔ Spin I i := by
  rw [spinsL, spinTo_mem]
  simp only [Int.toNat_natCast, spinsB, Bool.and_eq_true, Bool.not_eq_true', Spin]
  have := after_has (I := I) (i := i) (j := i)
  simp only [has] at this
  rw [← this]
  constructor
  · rintro ⟨_, _, h⟩; exact h
  · rintro h
    have := has_lt h.1
    rw [reachL_len] at this
    exact ⟨by omega, by omega, h⟩
theorem spins_next {I : Rt} {i : Nat} (h : Spin I i) : ∃ j, Edge I i j ∧ Spin I j := by
  obtain ⟨hr, hp, hc⟩ := h
  have key : ∀ k, Rch I true (Edge I i) k → pz (opOf I k) = false → ∃ j, Edge I i j ∧ pz (opOf I j) = false ∧ (j = k ∨ Rch I true (Edge I j) k) := fun k hk => by
    induction hk with
    | base h => intro hp'; exact ⟨_, h, hp', .inl rfl⟩
    | @step a b _ h2 h3 ih =>
      intro _
      obtain ⟨j, hj, hpj, hj'⟩ := ih h2
      refine ⟨j, hj, hpj, .inr ?_⟩
      rcases hj' with rfl | hj'
      · exact .base h3
      · exact .step hj' h2 h3
  obtain ⟨j, hj, hpj, hj'⟩ := key i hc hp
  refine ⟨j, hj, reachL_step hr hj, hpj, ?_⟩
  rcases hj' with rfl | hj'
  · exact .base hj
  · exact .step hj' (by rw [stops_true]; exact hp) hj
theorem spins_prev {I : Rt} {i : Nat} (h : Spin I i) : ∃ j, Edge I j i ∧ Spin I j := by
  obtain ⟨hr, hp, hc⟩ := h
  rcases hc.pre with h | ⟨j, h1, h2, h3⟩
  · exact ⟨i, h, hr, hp, .base h⟩
  · refine ⟨j, h3, ?_, by rw [stops_true] at h2; exact h2, ?_⟩
    · have : ∀ k, Rch I true (Edge I i) k → has (reachL I) k := fun k hk => by
        induction hk with
        | base h => exact reachL_step hr h
        | step _ _ h3 ih => exact reachL_step ih h3
      exact this j h1
    · exact Rch.trans (fun k hk => .step (.base h3) (by rw [stops_true]; exact hp) hk) h1

/-! ### The longest paths -/
def nexts (I : Rt) (i : Nat) : List Int := if pz (opOf I i) then [] else nextL I i
def farTo (f : Int → Nat) (l : List Int) : Nat → Nat
  | 0 => 0
  | k + 1 => max (farTo f l k) (f (l.getD k 0))
def farK (I : Rt) : Nat → Nat → Nat
  | 0, _ => 1
  | k + 1, i => 1 + farTo (fun j => farK I k j.toNat) (nexts I i) (nexts I i).length
def lenOf (I : Rt) (i : Nat) : Nat := farK I I.length i
def bestTo (I : Rt) : Nat → Nat
  | 0 => 0
  | k + 1 => if (reachL I).getD k false then max (bestTo I k) (lenOf I k) else bestTo I k
def longestL (I : Rt) : Nat × Bool := if spinsL I = [] then (bestTo I I.length, true) else (0, false)

theorem farTo_le {f : Int → Nat} {l : List Int} {b : Nat} : ∀ {k : Nat}, k ≤ l.length → (∀ j ∈ l, f j ≤ b) → farTo f l k ≤ b
  | 0, _, _ => Nat.zero_le _
  | k + 1, hk, h => by
    have hk' : k < l.length := hk
    have e : l.getD k 0 = l[k] := by simp [List.getD_eq_getElem?_getD, hk']
    rw [farTo, e]
    have := farTo_le (k := k) (by omega) h
    have := h _ (List.getElem_mem hk')
    omega
theorem farTo_ge {f : Int → Nat} {l : List Int} : ∀ {k m : Nat}, k ≤ l.length → m < k → f (l.getD m 0) ≤ farTo f l k
  | k + 1, m, hk, hm => by
    rw [farTo]
    by_cases e : m = k
    · subst e; omega
    · have := farTo_ge (f := f) (l := l) (k := k) (m := m) (by omega) (by omega)
      omega
theorem farTo_mem {f : Int → Nat} {l : List Int} {j : Int} (h : j ∈ l) : f j ≤ farTo f l l.length := by
  obtain ⟨m, hm, rfl⟩ := List.getElem_of_mem h
  have := farTo_ge (f := f) (l := l) (Nat.le_refl _) hm
  simpa [List.getD_eq_getElem?_getD, hm] using this
theorem farTo_congr {f g : Int → Nat} {l : List Int} (h : ∀ j ∈ l, f j = g j) : ∀ {k : Nat}, k ≤ l.length → farTo f l k = farTo g l k
  | 0, _ => rfl
  | k + 1, hk => by
    have hk' : k < l.length := hk
    rw [farTo, farTo, farTo_congr h (by omega)]
    have e : l.getD k 0 = l[k] := by simp [List.getD_eq_getElem?_getD, hk']
    rw [e, h _ (List.getElem_mem hk')]
theorem farK_pos (I : Rt) : ∀ (k i : Nat), 1 ≤ farK I k i
  | 0, _ => Nat.le_refl _
  | _ + 1, _ => by rw [farK]; omega
theorem farK_le (I : Rt) : ∀ (k i : Nat), farK I k i ≤ k + 1
  | 0, _ => Nat.le_refl _
  | k + 1, i => by
    rw [farK]
    have := farTo_le (f := fun j => farK I k j.toNat) (l := nexts I i) (b := k + 1) (Nat.le_refl _) (fun j _ => farK_le I k _)
    omega

/-- What can follow i, through instructions that do not pause. -/
def behind (I : Rt) (i : Nat) : List Bool := if pz (opOf I i) then List.replicate I.length false else after I i
def rank (I : Rt) (i : Nat) : Nat := cnt (behind I i)
theorem behind_len (I : Rt) (i : Nat) : (behind I i).length = I.length := by
  unfold behind; split
  · simp
  · exact after_len _ _
theorem mem_nexts {I : Rt} {i : Nat} {j : Int} (h : j ∈ nexts I i) : pz (opOf I i) = false ∧ 0 ≤ j ∧ Edge I i j.toNat ∧ j = (j.toNat : Int) := by
  unfold nexts at h
  split at h
  · simp at h
  · rename_i hp
    have := nextL_mem h
    have e : (j.toNat : Int) = j := by omega
    exact ⟨by simpa using hp, this.1, by rw [Edge, e]; exact h, e.symm⟩
section
variable {I : Rt} (hcalm : spinsL I = [])
include hcalm
theorem no_spin (i : Nat) : ¬ Spin I i := fun h => by
  have := mem_spins.2 h
  rw [hcalm] at this
  simp at this
theorem not_behind {i : Nat} (hr : has (reachL I) i) : ¬ has (behind I i) i := by
  unfold behind
  split
  · exact not_has_replicate _ _
  · rename_i hp
    intro h
    exact no_spin hcalm i ⟨hr, by simpa using hp, after_has.1 h⟩
theorem rank_lt {i j : Nat} (hr : has (reachL I) i) (hp : pz (opOf I i) = false) (he : Edge I i j) : rank I j < rank I i := by
  have hb : behind I i = after I i := by unfold behind; rw [if_neg (by simp [hp])]
  refine cnt_lt (by rw [behind_len, behind_len]) (fun k hk => ?_) j ?_ (not_behind hcalm (reachL_step hr he))
  · rw [hb, after_has]
    unfold behind at hk
    split at hk
    · exact absurd hk (not_has_replicate _ _)
    · rename_i hpj
      exact Rch.trans (fun m hm => .step (.base he) (by rw [stops_true]; simpa using hpj) hm) (after_has.1 hk)
  · rw [hb, after_has]
    exact .base he
theorem rank_le {i : Nat} (hr : has (reachL I) i) : rank I i < I.length := by
  have := has_lt hr
  rw [reachL_len] at this
  have := cnt_full (S := behind I i) (j := i) (by rw [behind_len]; exact this) (not_behind hcalm hr)
  rwa [behind_len] at this
theorem farK_stable : ∀ (r : Nat) {i k k' : Nat}, has (reachL I) i → rank I i ≤ r → r ≤ k → r ≤ k' → farK I k i = farK I k' i
  | 0, i, k, k', hr, hi, _, _ => by
    have hn : nexts I i = [] := by
      cases hh : nexts I i with
      | nil => rfl
      | cons j l =>
        have := mem_nexts (I := I) (i := i) (j := j) (by rw [hh]; simp)
        have := rank_lt hcalm hr this.1 this.2.2.1
        omega
    have h1 : ∀ k, farK I k i = 1 := fun k => by
      cases k with
      | zero => rfl
      | succ k => rw [farK, hn]; rfl
    rw [h1, h1]
  | r + 1, i, k, k', hr, hi, hk, hk' => by
    obtain ⟨k, rfl⟩ : ∃ m, k = m + 1 := ⟨k - 1, by omega⟩
    obtain ⟨k', rfl⟩ : ∃ m, k' = m + 1 := ⟨k' - 1, by omega⟩
    rw [farK, farK]
    congr 1
    refine farTo_congr (fun j hj => ?_) (Nat.le_refl _)
    obtain ⟨h1, h2, h3, _⟩ := mem_nexts hj
    have := rank_lt hcalm hr h1 h3
    exact farK_stable r (reachL_step hr h3) (by omega) (by omega) (by omega)
theorem lenOf_eq {i : Nat} (hr : has (reachL I) i) : lenOf I i = 1 + farTo (fun j => lenOf I j.toNat) (nexts I i) (nexts I i).length := by
  have hrk := rank_le hcalm hr
  rw [lenOf, farK_stable hcalm (I.length - 1) (k' := I.length - 1 + 1) hr (by omega) (by omega) (by omega), farK]
  congr 1
  refine farTo_congr (fun j hj => ?_) (Nat.le_refl _)
  obtain ⟨h1, h2, h3, _⟩ := mem_nexts hj
  have h4 := rank_lt hcalm hr h1 h3
  exact farK_stable hcalm (I.length - 1) (reachL_step hr h3) (by omega) (by omega) (by omega)
theorem lenOf_next {i j : Nat} (hr : has (reachL I) i) (hp : pz (opOf I i) = false) (he : Edge I i j) : lenOf I j + 1 ≤ lenOf I i := by
  rw [lenOf_eq hcalm hr]
  have hm : (j : Int) ∈ nexts I i := by unfold nexts; rw [if_neg (by simp [hp])]; exact he
  have := farTo_mem (f := fun j => lenOf I j.toNat) hm
  simp only [Int.toNat_natCast] at this
  omega
theorem lenOf_le {i : Nat} (hr : has (reachL I) i) : lenOf I i ≤ I.length := by
  have hrk := rank_le hcalm hr
  rw [lenOf, farK_stable hcalm (I.length - 1) (k' := I.length - 1) hr (by omega) (by omega) (by omega)]
  have := farK_le I (I.length - 1) i
  omega
end
theorem lenOf_pos (I : Rt) (i : Nat) : 1 ≤ lenOf I i := farK_pos _ _ _
theorem bestTo_ge {I : Rt} : ∀ {k i : Nat}, i < k → has (reachL I) i → lenOf I i ≤ bestTo I k
  | k + 1, i, hi, hr => by
    rw [bestTo]
    by_cases e : i = k
    · subst e
      simp only [has] at hr
      rw [if_pos hr]; omega
    · have := bestTo_ge (k := k) (i := i) (by omega) hr
      split <;> omega
theorem bestTo_le {I : Rt} (hcalm : spinsL I = []) : ∀ k, bestTo I k ≤ I.length
  | 0 => Nat.zero_le _
  | k + 1 => by
    rw [bestTo]
    have := bestTo_le hcalm k
    split
    · rename_i h
      have := lenOf_le hcalm h
      omega
    · exact this


/-! ### The reference's rounds over the lengths -/
def at0 (l : List Nat) (i : Nat) : Nat := l.getD i 0
theorem at0_set {l : List Nat} {i j v : Nat} (hi : i < l.length) : at0 (l.set i v) j = if j = i then v else at0 l j := by
  unfold at0
  simp only [List.getD_eq_getElem?_getD, List.getElem?_set]
  by_cases h : i = j
  · subst h; simp [hi]
  · simp [h, Ne.symm h]
structure FarInv (I : Rt) (r i : Nat) (far : List Nat) (best : Nat) : Prop where
  len : far.length = I.length
  hi : ∀ j, has (reachL I) j → at0 far j ≤ lenOf I j
  old : ∀ j, has (reachL I) j → 0 < r → farK I (r - 1) j ≤ at0 far j ∧ farK I (r - 1) j ≤ best
  now : ∀ j, has (reachL I) j → j < i → farK I r j ≤ at0 far j ∧ farK I r j ≤ best
  top : best ≤ bestTo I I.length
/-- In the middle of an instruction's turn: the value v at i is at least one more than the first m of what follows. -/
structure FarMid (I : Rt) (r i m : Nat) (far : List Nat) (best : Nat) : Prop where
  len : far.length = I.length
  hi : ∀ j, has (reachL I) j → at0 far j ≤ lenOf I j
  old : ∀ j, has (reachL I) j → 0 < r → farK I (r - 1) j ≤ at0 far j ∧ farK I (r - 1) j ≤ best
  now : ∀ j, has (reachL I) j → j < i → farK I r j ≤ at0 far j ∧ farK I r j ≤ best
  top : best ≤ bestTo I I.length
  one : 1 ≤ at0 far i
  mid : ∀ k, k < m → at0 far ((nexts I i).getD k 0).toNat + 1 ≤ at0 far i
section
variable {I : Rt} (hcalm : spinsL I = []) {r i m : Nat} {far : List Nat} {best : Nat}
theorem FarInv.init : FarInv I 0 0 (List.replicate I.length 0) 0 :=
  ⟨by simp, fun j _ => by simp [at0, List.getElem?_replicate]; split <;> simp, fun j _ h => by omega, fun j _ h => by omega, Nat.zero_le _⟩
theorem FarInv.turn (h : FarInv I r I.length far best) : FarInv I (r + 1) 0 far best :=
  ⟨h.len, h.hi, fun j hr _ => h.now j hr (by have := has_lt hr; rwa [reachL_len] at this), fun j _ h => by omega, h.top⟩
theorem FarInv.pass (h : FarInv I r i far best) (hr : ¬ has (reachL I) i) : FarInv I r (i + 1) far best :=
  ⟨h.len, h.hi, h.old, fun j hj hlt => h.now j hj (by
    by_cases e : j = i
    · subst e; exact absurd hj hr
    · omega), h.top⟩
theorem FarInv.enter (h : FarInv I r i far best) (hr : has (reachL I) i) : FarMid I r i 0 (far.set i (max (at0 far i) 1)) best := by
  have hlt : i < far.length := by have := has_lt hr; rw [reachL_len] at this; rw [h.len]; exact this
  refine ⟨by simpa using h.len, fun j hj => ?_, fun j hj h0 => ?_, fun j hj hji => ?_, h.top, ?_, fun k hk => by omega⟩
  · rw [at0_set hlt]
    split
    · rename_i e; subst e
      have := h.hi j hj
      have := lenOf_pos I j
      omega
    · exact h.hi j hj
  · rw [at0_set hlt]
    have := h.old j hj h0
    split
    · rename_i e; subst e; omega
    · exact this
  · rw [at0_set hlt, if_neg (by omega)]
    exact h.now j hj hji
  · rw [at0_set hlt, if_pos rfl]; omega
include hcalm in
theorem FarMid.step (h : FarMid I r i m far best) (hr : has (reachL I) i) (hm : m < (nexts I i).length) :
    FarMid I r i (m + 1) (far.set i (max (at0 far i) (at0 far ((nexts I i).getD m 0).toNat + 1))) best := by
  have hlt : i < far.length := by have := has_lt hr; rw [reachL_len] at this; rw [h.len]; exact this
  have hmem : ∀ k, k < (nexts I i).length → pz (opOf I i) = false ∧ Edge I i ((nexts I i).getD k 0).toNat := fun k hk => by
    have : (nexts I i).getD k 0 ∈ nexts I i := by rw [List.getD_eq_getElem?_getD, List.getElem?_eq_getElem hk]; simp
    have := mem_nexts this
    exact ⟨this.1, this.2.2.1⟩
  have hne : ∀ k, k < (nexts I i).length → ((nexts I i).getD k 0).toNat ≠ i := fun k hk e => by
    have := hmem k hk
    rw [e] at this
    exact no_spin hcalm i ⟨hr, this.1, .base this.2⟩
  have hj := hmem m hm
  have hle := lenOf_next hcalm hr hj.1 hj.2
  have hle2 := h.hi _ (reachL_step hr hj.2)
  refine ⟨by simpa using h.len, fun j hjr => ?_, fun j hj h0 => ?_, fun j hj hji => ?_, h.top, ?_, fun k hk => ?_⟩
  · rw [at0_set hlt]
    split
    · rename_i e; subst e
      have := h.hi j hjr
      omega
    · exact h.hi j hjr
  · rw [at0_set hlt]
    have := h.old j hj h0
    split
    · rename_i e; subst e; omega
    · exact this
  · rw [at0_set hlt, if_neg (by omega)]
    exact h.now j hj hji
  · rw [at0_set hlt, if_pos rfl]
    have := h.one
    omega
  · rw [at0_set hlt, at0_set hlt, if_neg (hne k (by omega)), if_pos rfl]
    by_cases e : k = m
    · subst e; omega
    · have := h.mid k (by omega)
      omega
theorem FarMid.leave (h : FarMid I r i (nexts I i).length far best) (hr : has (reachL I) i) : FarInv I r (i + 1) far (max best (at0 far i)) := by
  have hk : farK I r i ≤ at0 far i := by
    cases r with
    | zero => exact h.one
    | succ r =>
      rw [farK]
      have := farTo_le (f := fun j => farK I r j.toNat) (l := nexts I i) (b := at0 far i - 1) (Nat.le_refl _) (fun j hj => by
        obtain ⟨k, hk, rfl⟩ := List.getElem_of_mem hj
        have h1 := h.mid k hk
        rw [List.getD_eq_getElem?_getD, List.getElem?_eq_getElem hk, Option.getD_some] at h1
        obtain ⟨_, _, h3, _⟩ := mem_nexts hj
        have := (h.old _ (reachL_step hr h3) (by omega)).1
        simp only [Nat.add_sub_cancel] at this
        omega)
      have := h.one
      omega
  refine ⟨h.len, h.hi, fun j hj h0 => ?_, fun j hj hji => ?_, ?_⟩
  · have := h.old j hj h0
    omega
  · by_cases e : j = i
    · subst e; omega
    · have := h.now j hj (by omega)
      omega
  · have h1 := h.hi i hr
    have h2 := bestTo_ge (I := I) (k := I.length) (by have := has_lt hr; rwa [reachL_len] at this) hr
    have := h.top
    omega
include hcalm in
theorem FarInv.done (h : FarInv I I.length 0 far best) : best = bestTo I I.length := by
  have hge : ∀ k, k ≤ I.length → bestTo I k ≤ best := fun k => by
    induction k with
    | zero => intro _; exact Nat.zero_le _
    | succ k ih =>
      intro hk
      have := ih (by omega)
      rw [bestTo]
      split
      · rename_i hr
        have h1 := (h.old k hr (by omega)).2
        have hrk := rank_le hcalm hr
        have : lenOf I k = farK I (I.length - 1) k := by
          rw [lenOf]
          exact farK_stable hcalm (I.length - 1) hr (by omega) (by omega) (by omega)
        omega
      · exact this
  have := hge _ (Nat.le_refl _)
  have := h.top
  omega
end

/-! ### The program's memory of lengths -/
structure Memo (I : Rt) (M : List Nat) : Prop where
  len : M.length = I.length
  ok : ∀ j, j < I.length → at0 M j = 0 ∨ (has (reachL I) j ∧ at0 M j = lenOf I j)
theorem Memo.init (I : Rt) : Memo I (List.replicate I.length 0) := ⟨by simp, fun j hj => .inl (by simp [at0, hj])⟩
theorem Memo.put {I : Rt} {M : List Nat} (h : Memo I M) {i : Nat} (hr : has (reachL I) i) : Memo I (M.set i (lenOf I i)) := by
  have hlt : i < M.length := by have := has_lt hr; rw [reachL_len] at this; rw [h.len]; exact this
  refine ⟨by simpa using h.len, fun j hj => ?_⟩
  rw [at0_set hlt]
  split
  · rename_i e; subst e; exact .inr ⟨hr, rfl⟩
  · exact h.ok j hj
end Go.Proofs.Ytnbaofkgakgpgaa.Fl
