/- The plain law of chapter 43 (query): records, stays, the functions on lists of them that the program and the reference compute. No program in sight. -/
namespace Go.Proofs.Ytojadmccenkffaa.Qr

structure Rc where
  time : Int
  site : Int
  what : Int
  proc : Int
  index : Int
  value : Int
structure St where
  site : Int
  proc : Int
  index : Int
  frm : Int
  til : Int
structure Ak where
  frm : Int
  til : Int
  site : Int
  proc : Int
  index : Int
  what : Int

def agr (want n : Int) : Bool := want == -1 || want == n
/-- The error of a query: 0, 2 (a range), 1 (a kind). -/
def bad (q : Ak) : Nat :=
  if q.frm < 0 ∨ q.til < 0 ∨ 1000000001 < q.til ∨ q.site < -1 ∨ q.proc < -1 ∨ q.index < -1 then 2 else if q.what < 0 ∨ 18 < q.what then 1 else 0
def sel (q : Ak) (r : Rc) : Bool :=
  decide (q.frm ≤ r.time) && (decide (r.time < q.til) && (agr q.site r.site && (agr q.proc r.proc && (agr q.index r.index && (q.what == 0 || q.what == r.what)))))
def filt (q : Ak) (l : List Rc) : List Rc := if bad q = 0 then l.filter (sel q) else []
theorem filt_len (q : Ak) (l : List Rc) : (filt q l).length ≤ l.length := by
  unfold filt
  split
  · exact List.length_filter_le _ _
  · simp

/-! ### A span in two parts -/
def lo (q : Ak) (m : Int) : Ak := { q with til := m }
def hi (q : Ak) (m : Int) : Ak := { q with frm := m }
theorem bad_parts {q : Ak} {m : Int} (h : bad q = 0) (h1 : q.frm ≤ m) (h2 : m ≤ q.til) : bad (lo q m) = 0 ∧ bad (hi q m) = 0 := by
  unfold bad at h
  by_cases ha : q.frm < 0 ∨ q.til < 0 ∨ 1000000001 < q.til ∨ q.site < -1 ∨ q.proc < -1 ∨ q.index < -1
  · rw [if_pos ha] at h; simp at h
  · rw [if_neg ha] at h
    by_cases hb : q.what < 0 ∨ 18 < q.what
    · rw [if_pos hb] at h; simp at h
    · have e1 : bad (lo q m) = (if q.frm < 0 ∨ m < 0 ∨ 1000000001 < m ∨ q.site < -1 ∨ q.proc < -1 ∨ q.index < -1 then 2 else if q.what < 0 ∨ 18 < q.what then 1 else 0) := rfl
      have e2 : bad (hi q m) = (if m < 0 ∨ q.til < 0 ∨ 1000000001 < q.til ∨ q.site < -1 ∨ q.proc < -1 ∨ q.index < -1 then 2 else if q.what < 0 ∨ 18 < q.what then 1 else 0) := rfl
      exact ⟨by rw [e1, if_neg (by omega), if_neg hb], by rw [e2, if_neg (by omega), if_neg hb]⟩
theorem sel_lo {q : Ak} {m : Int} {r : Rc} (h2 : m ≤ q.til) : sel (lo q m) r = (sel q r && decide (r.time < m)) := by
  unfold sel lo
  simp only []
  by_cases h : r.time < m
  · have h' : r.time < q.til := by omega
    simp [h, h']
  · simp [h]
theorem sel_hi {q : Ak} {m : Int} {r : Rc} (h1 : q.frm ≤ m) : sel (hi q m) r = (sel q r && !decide (r.time < m)) := by
  unfold sel hi
  simp only []
  by_cases h : m ≤ r.time
  · have h' : q.frm ≤ r.time := by omega
    have h'' : ¬ r.time < m := by omega
    simp [h, h', h'']
  · have h'' : r.time < m := by omega
    simp [h, h'']
theorem parts_len {q : Ak} {m : Int} (l : List Rc) (h : bad q = 0) (h1 : q.frm ≤ m) (h2 : m ≤ q.til) : (filt q l).length = (filt (lo q m) l).length + (filt (hi q m) l).length := by
  obtain ⟨ha, hb⟩ := bad_parts h h1 h2
  unfold filt
  rw [if_pos h, if_pos ha, if_pos hb]
  induction l with
  | nil => rfl
  | cons r l ih =>
    simp only [List.filter_cons]
    rw [sel_lo h2, sel_hi h1]
    cases sel q r <;> cases decide (r.time < m) <;> simp [ih] <;> omega
theorem filt_twice {q : Ak} (l : List Rc) (h : bad q = 0) : filt q (filt q l) = filt q l := by
  unfold filt
  rw [if_pos h, if_pos h, List.filter_filter]
  simp
theorem filt_lo {q : Ak} {m : Int} (l : List Rc) (h : bad q = 0) (h1 : q.frm ≤ m) (h2 : m ≤ q.til) : filt (lo q m) (filt q l) = filt (lo q m) l := by
  obtain ⟨ha, hb⟩ := bad_parts h h1 h2
  unfold filt
  rw [if_pos h, if_pos ha, if_pos ha, List.filter_filter]
  congr 1
  funext r
  rw [sel_lo h2]
  cases sel q r <;> simp
theorem filt_mem {q : Ak} {l : List Rc} {r : Rc} (h : bad q = 0) (hr : r ∈ filt q l) : sel q r = true ∧ r ∈ l := by
  unfold filt at hr
  rw [if_pos h, List.mem_filter] at hr
  exact ⟨hr.2, hr.1⟩
theorem sel_says {q : Ak} {r : Rc} (h : sel q r = true) : q.frm ≤ r.time ∧ r.time < q.til ∧ (q.site ≠ -1 → r.site = q.site) ∧ (q.what ≠ 0 → r.what = q.what) := by
  unfold sel agr at h
  simp only [Bool.and_eq_true, Bool.or_eq_true, decide_eq_true_eq, beq_iff_eq] at h
  obtain ⟨h1, h2, h3, _, _, h6⟩ := h
  exact ⟨h1, h2, fun hn => by omega, fun hn => by omega⟩
end Go.Proofs.Ytojadmccenkffaa.Qr
