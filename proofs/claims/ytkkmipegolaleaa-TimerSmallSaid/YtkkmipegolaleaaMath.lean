/-
  Plain facts about lists of timeouts: the index of the first least one, what is wrong with a list, and how many ticks pass. No program here.
-/
namespace Go.Proofs.Ytkkmipegolaleaa.T

def ok1 (n : Int) : Bool := decide (1 ≤ n) && decide (n ≤ 1000)
/-- What is wrong with a list. -/
def chk (l : List Int) : Int := if 12 < l.length then 5 else if l.all ok1 then 0 else 340
/-- The index of the first least element among the first k. -/
def am (l : List Int) : Nat → Nat
  | 0 => 0
  | k + 1 => if l.getD k 0 < l.getD (am l k) 0 then k else am l k
/-- The index of the timeout that fires, -1 if there is none; and its ticks. -/
def ix (l : List Int) : Int := if l = [] then -1 else am l l.length
def tk (l : List Int) : Int := if l = [] then 0 else l.getD (am l l.length) 0

theorem chk_ok {l : List Int} (h : chk l = 0) : l.length ≤ 12 ∧ ∀ j, j < l.length → 1 ≤ l.getD j 0 ∧ l.getD j 0 ≤ 1000 := by
  unfold chk at h
  split at h
  · omega
  split at h
  · rename_i h1 h2
    refine ⟨by omega, fun j hj => ?_⟩
    have := List.all_eq_true.1 h2 (l.getD j 0) (by rw [List.getD_eq_getElem?_getD, List.getElem?_eq_getElem hj]; exact List.getElem_mem hj)
    simpa [ok1] using this
  · omega

theorem chk_of_ok {l : List Int} (h1 : l.length ≤ 12) (h2 : ∀ j, j < l.length → 1 ≤ l.getD j 0 ∧ l.getD j 0 ≤ 1000) : chk l = 0 := by
  unfold chk
  rw [if_neg (by omega), if_pos]
  rw [List.all_eq_true]
  intro x hx
  obtain ⟨j, hj, rfl⟩ := List.getElem_of_mem hx
  have := h2 j hj
  rw [List.getD_eq_getElem?_getD, List.getElem?_eq_getElem hj] at this
  simpa [ok1] using this

theorem chk_cases (l : List Int) : (12 < l.length ∧ chk l = 5) ∨ (l.length ≤ 12 ∧ chk l = 0) ∨ (l.length ≤ 12 ∧ chk l = 340) := by
  unfold chk
  split
  · exact .inl ⟨by assumption, rfl⟩
  split
  · exact .inr (.inl ⟨by omega, rfl⟩)
  · exact .inr (.inr ⟨by omega, rfl⟩)

theorem am_le (l : List Int) (k : Nat) : am l k = 0 ∨ am l k < k := by
  induction k with
  | zero => exact .inl rfl
  | succ k ih => unfold am; split <;> omega

theorem am_lt (l : List Int) (k : Nat) (hk : 0 < k) : am l k < k := by have := am_le l k; omega

/-- The first least one: not greater than any, and less than all before it. -/
theorem am_least (l : List Int) (k : Nat) : (∀ j, j < k → l.getD (am l k) 0 ≤ l.getD j 0) ∧ (∀ j, j < am l k → l.getD (am l k) 0 < l.getD j 0) := by
  induction k with
  | zero => exact ⟨fun j hj => by omega, fun j hj => by simp [am] at hj⟩
  | succ k ih =>
    obtain ⟨h1, h2⟩ := ih
    unfold am
    split
    · rename_i h
      refine ⟨fun j hj => ?_, fun j hj => ?_⟩
      · by_cases e : j = k
        · subst e; omega
        · have := h1 j (by omega); omega
      · have := h1 j hj; omega
    · rename_i h
      refine ⟨fun j hj => ?_, h2⟩
      by_cases e : j = k
      · subst e; omega
      · exact h1 j (by omega)

/-- Whatever is the first least one is it. -/
theorem am_unique {l : List Int} {i : Nat} (hi : i < l.length) (h1 : ∀ j, j < l.length → l.getD i 0 ≤ l.getD j 0) (h2 : ∀ j, j < i → l.getD i 0 < l.getD j 0) : am l l.length = i := by
  obtain ⟨a1, a2⟩ := am_least l l.length
  have hl := am_lt l l.length (by omega)
  rcases Nat.lt_trichotomy (am l l.length) i with h | h | h
  · have := h2 _ h; have := a1 i hi; omega
  · exact h
  · have := a2 _ h; have := h1 _ hl; omega

theorem ix_nonneg {l : List Int} (h : l ≠ []) : ix l = am l l.length := by simp [ix, h]
theorem ix_lt {l : List Int} (h : l ≠ []) : 0 ≤ ix l ∧ ix l < l.length := by
  have hl : 0 < l.length := List.length_pos_iff.2 h
  have := am_lt l l.length hl
  rw [ix_nonneg h]; omega
theorem tk_of {l : List Int} (h : l ≠ []) : tk l = l.getD (am l l.length) 0 := by simp [tk, h]
theorem tk_range {l : List Int} (h : l ≠ []) (hc : chk l = 0) : 1 ≤ tk l ∧ tk l ≤ 1000 := by
  rw [tk_of h]
  exact (chk_ok hc).2 _ (am_lt l l.length (List.length_pos_iff.2 h))

end Go.Proofs.Ytkkmipegolaleaa.T
