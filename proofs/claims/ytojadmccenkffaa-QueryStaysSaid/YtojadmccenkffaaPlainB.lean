/- The plain law of chapter 43, second part: the lengths of stays and how many there are at once. No program in sight. -/
import Derived.Test.YtojadmccenkffaaPlain
namespace Go.Proofs.Ytojadmccenkffaa.Qr

def clip (n : Int) : Int := if 1000000000000 < n then 1000000000000 else if n < -1000000000000 then -1000000000000 else n
def add (a b : Int) : Int := clip (clip a + clip b)
def len (s : St) : Int := if s.til ≤ s.frm then 0 else add (clip s.til) (-(clip s.frm))
def pick (site index : Int) (s : St) : Bool := agr site s.site && agr index s.index
def of (l : List St) (site index : Int) : List St := l.filter (pick site index)
def busyTo (acc : Int) : List St → Int
  | [] => acc
  | s :: l => busyTo (add acc (len s)) l
def busy (l : List St) (site index : Int) : Int := busyTo 0 (of l site index)
def cover (t : Int) (s : St) : Bool := decide (s.frm ≤ t) && decide (t < s.til)
def cnt (l : List St) (t : Int) : Nat := l.countP (cover t)
def maxTo (f : St → Nat) (m : Nat) : List St → Nat
  | [] => m
  | s :: l => maxTo f (max m (f s)) l
def most (l : List St) (site index : Int) : Nat := maxTo (fun a => cnt (of l site index) a.frm) 0 (of l site index)
def rmost (l : List St) (site index : Int) : Nat := maxTo (fun a => cnt (of l site index) a.frm) 0 l

theorem clip_in {n : Int} (h1 : -1000000000000 ≤ n) (h2 : n ≤ 1000000000000) : clip n = n := by
  unfold clip; rw [if_neg (by omega), if_neg (by omega)]
theorem clip_lo (n : Int) : -1000000000000 ≤ clip n ∧ clip n ≤ 1000000000000 := by
  unfold clip; split
  · omega
  · split <;> omega
theorem add_lo (a b : Int) : -1000000000000 ≤ add a b ∧ add a b ≤ 1000000000000 := clip_lo _
theorem len_lo (s : St) : 0 ≤ len s ∧ len s ≤ 1000000000000 := by
  unfold len
  split
  · omega
  · unfold add
    rw [clip_in (clip_lo _).1 (clip_lo _).2, clip_in (n := -clip s.frm) (by have := clip_lo s.frm; omega) (by have := clip_lo s.frm; omega)]
    have h3 : clip s.frm ≤ clip s.til := by unfold clip; split <;> split <;> (try split) <;> (try split) <;> omega
    have := clip_lo (clip s.til + -clip s.frm)
    refine ⟨?_, by omega⟩
    unfold clip
    unfold clip at h3
    split
    · omega
    · split
      · omega
      · omega
theorem of_len (l : List St) (site index : Int) : (of l site index).length ≤ l.length := List.length_filter_le _ _
theorem maxTo_ge (f : St → Nat) : ∀ (l : List St) (m : Nat), m ≤ maxTo f m l
  | [], _ => Nat.le_refl _
  | _ :: l, _ => Nat.le_trans (Nat.le_max_left _ _) (maxTo_ge f l _)
theorem maxTo_mem (f : St → Nat) : ∀ (l : List St) (m : Nat), ∀ s ∈ l, f s ≤ maxTo f m l
  | [], _, s, h => by simp at h
  | x :: l, m, s, h => by
    rcases List.mem_cons.1 h with rfl | h
    · exact Nat.le_trans (Nat.le_max_right _ _) (maxTo_ge f l _)
    · exact maxTo_mem f l _ s h
theorem maxTo_le (f : St → Nat) (n : Nat) : ∀ (l : List St) (m : Nat), m ≤ n → (∀ s ∈ l, f s ≤ n) → maxTo f m l ≤ n
  | [], _, h, _ => h
  | x :: l, m, h, hl => maxTo_le f n l _ (Nat.max_le.2 ⟨h, hl x (by simp)⟩) (fun s hs => hl s (by simp [hs]))
theorem last_from : ∀ (l : List St), l ≠ [] → ∃ a ∈ l, ∀ b ∈ l, b.frm ≤ a.frm
  | [], h => absurd rfl h
  | [x], _ => ⟨x, by simp, fun b hb => by simp at hb; subst hb; exact Int.le_refl _⟩
  | x :: y :: l, _ => by
    obtain ⟨a, ha, hm⟩ := last_from (y :: l) (by simp)
    by_cases h : a.frm ≤ x.frm
    · refine ⟨x, by simp, fun b hb => ?_⟩
      rcases List.mem_cons.1 hb with rfl | hb
      · exact Int.le_refl _
      · have := hm b hb; omega
    · refine ⟨a, by simp [ha], fun b hb => ?_⟩
      rcases List.mem_cons.1 hb with rfl | hb
      · omega
      · exact hm b hb
/-- As many as at any time there are at the beginning of some stay. -/
theorem cnt_le (l : List St) (t : Int) : cnt l t ≤ maxTo (fun a => cnt l a.frm) 0 l := by
  by_cases h : l.filter (cover t) = []
  · have : cnt l t = 0 := by unfold cnt; rw [List.countP_eq_length_filter, h]; rfl
    omega
  · obtain ⟨a, ha, hm⟩ := last_from _ h
    obtain ⟨ha1, ha2⟩ := List.mem_filter.1 ha
    refine Nat.le_trans ?_ (maxTo_mem (fun a => cnt l a.frm) l 0 a ha1)
    unfold cnt
    refine List.countP_mono_left fun b hb hc => ?_
    have h1 := hm b (List.mem_filter.2 ⟨hb, hc⟩)
    unfold cover at hc ha2 ⊢
    simp only [Bool.and_eq_true, decide_eq_true_eq] at hc ha2 ⊢
    omega
theorem rmost_eq (l : List St) (site index : Int) : rmost l site index = most l site index := by
  refine Nat.le_antisymm ?_ ?_
  · exact maxTo_le _ _ l 0 (Nat.zero_le _) (fun s _ => cnt_le _ s.frm)
  · exact maxTo_le _ _ _ 0 (Nat.zero_le _) (fun s hs => maxTo_mem (fun a => cnt (of l site index) a.frm) l 0 s ((List.mem_filter.1 hs).1))
theorem cnt_len (l : List St) (t : Int) : cnt l t ≤ l.length := List.countP_le_length
theorem most_len (l : List St) (site index : Int) : most l site index ≤ l.length :=
  maxTo_le _ _ _ 0 (Nat.zero_le _) (fun _ _ => Nat.le_trans (cnt_len _ _) (of_len _ _ _))

/-! ### The sums -/
def T1 (l : List St) : Prop := ∀ s ∈ l, 0 ≤ s.frm ∧ s.frm ≤ 1000000000 ∧ 0 ≤ s.til ∧ s.til ≤ 1000000000
def lenP (s : St) : Nat := (s.til - s.frm).toNat
def tot : List St → Nat
  | [] => 0
  | s :: l => lenP s + tot l
theorem len_eq {s : St} (h : 0 ≤ s.frm ∧ s.frm ≤ 1000000000 ∧ 0 ≤ s.til ∧ s.til ≤ 1000000000) : len s = (lenP s : Int) ∧ lenP s ≤ 1000000000 := by
  unfold len lenP
  refine ⟨?_, by omega⟩
  split
  · omega
  · unfold add
    rw [clip_in (n := s.til) (by omega) (by omega), clip_in (n := s.frm) (by omega) (by omega), clip_in (n := s.til) (by omega) (by omega), clip_in (n := -s.frm) (by omega) (by omega), clip_in (by omega) (by omega)]
    omega
theorem busyTo_eq : ∀ (l : List St) (acc : Nat), T1 l → acc + 1000000000 * l.length ≤ 1000000000000 → busyTo (acc : Int) l = ((acc + tot l : Nat) : Int)
  | [], acc, _, _ => rfl
  | s :: l, acc, h, hb => by
    obtain ⟨e, h2⟩ := len_eq (h s (by simp))
    rw [List.length_cons] at hb
    have e2 : add (acc : Int) (len s) = ((acc + lenP s : Nat) : Int) := by
      unfold add
      rw [e, clip_in (n := (acc : Int)) (by omega) (by omega), clip_in (n := (lenP s : Int)) (by omega) (by omega), clip_in (by omega) (by omega)]
      omega
    rw [busyTo, e2, busyTo_eq l _ (fun x hx => h x (by simp [hx])) (by omega), tot, Nat.add_assoc]
theorem T1.of {l : List St} (h : T1 l) (site index : Int) : T1 (of l site index) := fun s hs => h s ((List.mem_filter.1 hs).1)
theorem busy_eq {l : List St} (h : T1 l) (hl : l.length ≤ 200) (site index : Int) : busy l site index = (tot (of l site index) : Int) := by
  have := of_len l site index
  have := busyTo_eq (of l site index) 0 (h.of site index) (by omega)
  rw [Nat.zero_add] at this
  exact this
theorem tot_append : ∀ (a b : List St), tot (a ++ b) = tot a + tot b
  | [], b => by simp [tot]
  | s :: a, b => by rw [List.cons_append, tot, tot, tot_append a b]; omega
theorem of_append (a b : List St) (site index : Int) : of (a ++ b) site index = of a site index ++ of b site index := List.filter_append _ _
theorem busy_parts {l : List St} (h : T1 l) (hl : l.length ≤ 200) (k : Nat) (site index : Int) : busy (l.take k) site index + busy (l.drop k) site index = busy l site index := by
  rw [busy_eq (fun s hs => h s (List.mem_of_mem_take hs)) (by rw [List.length_take]; omega), busy_eq (fun s hs => h s (List.mem_of_mem_drop hs)) (by rw [List.length_drop]; omega), busy_eq h hl]
  have : tot (of l site index) = tot (of (l.take k) site index) + tot (of (l.drop k) site index) := by
    rw [← tot_append, ← of_append, List.take_append_drop]
  omega
/-- Some stay of a site and an index has a length. -/
def long (l : List St) (site index : Int) : Bool := l.any fun s => decide (s.frm < s.til) && pick site index s
theorem long_iff (l : List St) (site index : Int) : long l site index = true ↔ ∃ s ∈ of l site index, s.frm < s.til := by
  unfold long of
  rw [List.any_eq_true]
  constructor
  · rintro ⟨s, h1, h2⟩
    rw [Bool.and_eq_true, decide_eq_true_eq] at h2
    exact ⟨s, List.mem_filter.2 ⟨h1, h2.2⟩, h2.1⟩
  · rintro ⟨s, h1, h2⟩
    obtain ⟨h3, h4⟩ := List.mem_filter.1 h1
    exact ⟨s, h3, by rw [Bool.and_eq_true, decide_eq_true_eq]; exact ⟨h2, h4⟩⟩
theorem tot_pos : ∀ (l : List St), 0 < tot l ↔ ∃ s ∈ l, s.frm < s.til
  | [] => by simp [tot]
  | x :: l => by
    rw [tot]
    have ih := tot_pos l
    constructor
    · intro h
      by_cases hx : x.frm < x.til
      · exact ⟨x, by simp, hx⟩
      · obtain ⟨s, h1, h2⟩ := ih.1 (by unfold lenP at h; omega)
        exact ⟨s, by simp [h1], h2⟩
    · rintro ⟨s, h1, h2⟩
      rcases List.mem_cons.1 h1 with rfl | h1
      · unfold lenP; omega
      · have := ih.2 ⟨s, h1, h2⟩; omega
theorem most_pos (l : List St) (site index : Int) : 0 < most l site index ↔ ∃ s ∈ of l site index, s.frm < s.til := by
  constructor
  · intro h
    by_cases hz : ∀ s ∈ of l site index, cnt (of l site index) s.frm ≤ 0
    · have := maxTo_le (fun a => cnt (of l site index) a.frm) 0 (of l site index) 0 (Nat.le_refl _) hz
      unfold most at h
      omega
    · have ⟨s, hs⟩ := Classical.not_forall.1 hz
      have ⟨hm, hc⟩ := Classical.not_imp.1 hs
      unfold cnt at hc
      obtain ⟨b, hb, hcov⟩ := List.countP_pos_iff.1 (by omega : 0 < (of l site index).countP (cover s.frm))
      unfold cover at hcov
      simp only [Bool.and_eq_true, decide_eq_true_eq] at hcov
      exact ⟨b, hb, by omega⟩
  · rintro ⟨s, hm, hlt⟩
    refine Nat.lt_of_lt_of_le ?_ (maxTo_mem (fun a => cnt (of l site index) a.frm) _ 0 s hm)
    unfold cnt
    refine List.countP_pos_iff.2 ⟨s, hm, ?_⟩
    unfold cover
    simp only [Bool.and_eq_true, decide_eq_true_eq]
    omega
theorem cnt_cons (s : St) (l : List St) (t : Int) : cnt (s :: l) t = cnt l t + (if cover t s then 1 else 0) := by
  unfold cnt; rw [List.countP_cons]
/-- The counts at n times from t on. -/
def sumAt (l : List St) (t : Int) : Nat → Nat
  | 0 => 0
  | n + 1 => cnt l t + sumAt l (t + 1) n
theorem sumAt_nil : ∀ (n : Nat) (t : Int), sumAt [] t n = 0
  | 0, _ => rfl
  | n + 1, t => by rw [sumAt, sumAt_nil n]; rfl
theorem sumAt_cons (s : St) (l : List St) : ∀ (n : Nat) (t : Int), sumAt (s :: l) t n = sumAt [s] t n + sumAt l t n
  | 0, _ => rfl
  | n + 1, t => by
    rw [sumAt, sumAt, sumAt, sumAt_cons s l n, cnt_cons s l, cnt_cons s []]
    have : cnt [] t = 0 := rfl
    omega
theorem sumAt_one (s : St) : ∀ (n : Nat) (t : Int), sumAt [s] t n = ((min s.til (t + n)) - max s.frm t).toNat
  | 0, t => by rw [sumAt]; omega
  | n + 1, t => by
    rw [sumAt, sumAt_one s n, cnt_cons]
    have : cnt [] t = 0 := rfl
    rw [this]
    by_cases h : cover t s = true
    · rw [if_pos h]
      unfold cover at h
      simp only [Bool.and_eq_true, decide_eq_true_eq] at h
      omega
    · rw [if_neg h]
      unfold cover at h
      simp only [Bool.and_eq_true, decide_eq_true_eq] at h
      omega
theorem tot_eq : ∀ (l : List St) (n : Nat) (t : Int), (∀ s ∈ l, t ≤ s.frm ∧ s.til ≤ t + n) → tot l = sumAt l t n
  | [], n, t, _ => by rw [sumAt_nil]; rfl
  | s :: l, n, t, h => by
    rw [tot, sumAt_cons, ← tot_eq l n t (fun x hx => h x (by simp [hx])), sumAt_one]
    have := h s (by simp)
    unfold lenP
    omega
theorem sumAt_le (l : List St) (m : Nat) (h : ∀ t, cnt l t ≤ m) : ∀ (n : Nat) (t : Int), sumAt l t n ≤ m * n
  | 0, _ => by simp [sumAt]
  | n + 1, t => by
    rw [sumAt, Nat.mul_succ]
    have := sumAt_le l m h n (t + 1)
    have := h t
    omega
theorem tot_le {l : List St} {site index : Int} {t : Int} {n : Nat} (h : ∀ s ∈ l, t ≤ s.frm ∧ s.til ≤ t + n) : tot (of l site index) ≤ most l site index * n := by
  rw [tot_eq (of l site index) n t (fun s hs => h s ((List.mem_filter.1 hs).1))]
  exact sumAt_le _ _ (fun t => cnt_le _ t) n t
theorem most_drop (l : List St) (k : Nat) (site index : Int) : most (l.drop k) site index ≤ most l site index := by
  refine maxTo_le _ _ _ 0 (Nat.zero_le _) (fun s _ => ?_)
  refine Nat.le_trans ?_ (cnt_le (of l site index) s.frm)
  unfold cnt of
  exact List.Sublist.countP_le ((List.drop_sublist k l).filter _)
theorem tot_mono (p q : St → Bool) (h : ∀ s, p s = true → q s = true) : ∀ l : List St, tot (l.filter p) ≤ tot (l.filter q)
  | [] => Nat.le_refl _
  | s :: l => by
    have ih := tot_mono p q h l
    simp only [List.filter_cons]
    by_cases hp : p s = true
    · rw [if_pos hp, if_pos (h s hp), tot, tot]; omega
    · rw [if_neg hp]
      split
      · rw [tot]; omega
      · exact ih
theorem tot_any (l : List St) (site index : Int) : tot (of l site index) ≤ tot (of l (-1) index) := by
  refine tot_mono _ _ (fun s hs => ?_) l
  unfold pick agr at hs ⊢
  simp only [Bool.and_eq_true] at hs
  simp [hs.2]
end Go.Proofs.Ytojadmccenkffaa.Qr
