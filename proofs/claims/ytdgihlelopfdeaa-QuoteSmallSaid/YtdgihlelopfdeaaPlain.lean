/-
  Plain laws: what is written is read back. No walk here.
-/
import Derived.Test.YtdgihlelopfdeaaQuo
namespace Go.Proofs.Ytdgihlelopfdeaa
open Go.RowKit Q

/-- What is asked of marks: no letter, no digit, nothing outside 32..126. -/
structure MkOk (m : Int → Bool) : Prop where
  n : m 110 = false
  r : m 114 = false
  t : m 116 = false
  x : m 120 = false

theorem mkd_ok (x0 x1 x2 x3 : Int) : MkOk (mkd x0 x1 x2 x3) := by
  constructor <;> simp [mkd, letter]
theorem mkd_range {x0 x1 x2 x3 c : Int} (h : mkd x0 x1 x2 x3 c = true) : 32 ≤ c ∧ c ≤ 126 := by
  simp [mkd] at h; omega

theorem nib_hexd (n : Int) (h0 : 0 ≤ n) (h1 : n < 16) : nib (hexd n) = n := by
  unfold hexd nib
  split
  · rw [if_pos (by omega)]; omega
  · rw [if_neg (by omega), if_neg (by omega), if_pos (by omega)]; omega

/-- What is written of a byte is read back, whatever is behind it. -/
theorem rb_qb (m : Int → Bool) (hm : MkOk m) (c : Int) (h0 : 0 ≤ c) (h1 : c ≤ 255) (rest : List Int) : rb m (qb (m c) c ++ rest) = (c, ((qb (m c) c).length : Int), 0) := by
  unfold qb
  by_cases a : c = 10
  · subst a; simp [rb, hm.n]
  by_cases b : c = 13
  · subst b; simp [rb, hm.r]
  by_cases d : c = 9
  · subst d; simp [rb, hm.t]
  rw [if_neg a, if_neg b, if_neg d]
  by_cases e : c < 32 ∨ 126 < c
  · rw [if_pos e]
    have n1 := nib_hexd (c / 16) (by omega) (by omega)
    have n2 := nib_hexd (c % 16) (by omega) (by omega)
    have l1 : c / 16 < 16 := by omega
    have l2 : c % 16 < 16 := by omega
    simp only [List.cons_append, List.nil_append, rb]
    simp [hm.x, n1, n2, l1, l2]
    omega
  · rw [if_neg e]
    by_cases f : c = 92 ∨ m c = true
    · rw [if_pos f]; simp [rb, f]
    · rw [if_neg f]
      have f1 : ¬ c = 92 := fun h => f (.inl h)
      have f2 : m c = false := by cases h : m c; rfl; exact absurd (.inr h) f
      simp [rb, f1, f2]; omega

/-- What is cut off within is the form of no byte; it begins with a backslash. -/
theorem rb_cut (m : Int → Bool) (hm : MkOk m) (c : Int) (h0 : 0 ≤ c) (h1 : c ≤ 255) (j : Nat) (j0 : 0 < j) (j1 : j < (qb (m c) c).length) : rb m ((qb (m c) c).take j) = (0, 0, 20) ∧ (qb (m c) c).getD 0 0 = 92 := by
  unfold qb at j1 ⊢
  by_cases a : c = 10
  · subst a; simp at j1 ⊢; obtain rfl : j = 1 := (by omega); simp [rb]
  by_cases b : c = 13
  · subst b; simp at j1 ⊢; obtain rfl : j = 1 := (by omega); simp [rb]
  by_cases d : c = 9
  · subst d; simp at j1 ⊢; obtain rfl : j = 1 := (by omega); simp [rb]
  rw [if_neg a, if_neg b, if_neg d] at j1 ⊢
  by_cases e : c < 32 ∨ 126 < c
  · rw [if_pos e] at j1 ⊢
    simp at j1
    obtain rfl | rfl | rfl : j = 1 ∨ j = 2 ∨ j = 3 := by omega
    · simp [rb]
    · simp [rb, hm.x]
    · simp [rb, hm.x]
  · rw [if_neg e] at j1 ⊢
    by_cases f : c = 92 ∨ m c = true
    · rw [if_pos f] at j1 ⊢
      simp at j1
      obtain rfl : j = 1 := by omega
      simp [rb]
    · rw [if_neg f] at j1
      simp at j1; omega

theorem mq_ok : MkOk mq := mkd_ok _ _ _ _
theorem mq_34 : mq 34 = true := by decide +kernel
theorem qb_head (c : Int) (h : mq c = true → c = 34) : (qb (mq c) c).getD 0 0 ≠ 34 := by
  unfold qb
  repeat' split
  all_goals simp
  rename_i h1
  intro e
  subst e
  exact h1 (.inr mq_34)
theorem qb_head' (c : Int) : (qb (mq c) c).getD 0 0 ≠ 34 := by
  unfold qb
  repeat' split
  all_goals simp
  rename_i h1
  intro e
  subst e
  exact h1 (.inr mq_34)

theorem qb_cons (m : Bool) (c : Int) : ∃ y t, qb m c = y :: t := by
  have := (qb_len m c).1
  cases h : qb m c with
  | nil => rw [h] at this; simp at this
  | cons y t => exact ⟨y, t, rfl⟩

theorem unq_step (f p : Nat) (acc : List Int) (c : Int) (h0 : 0 ≤ c) (h1 : c ≤ 255) (rest : List Int) : unq (f + 1) p acc (qb (mq c) c ++ rest) = unq f (p + (qb (mq c) c).length) (acc ++ [c]) rest := by
  have hl := (qb_len (mq c) c).1
  rw [unq_ok f p acc (qb (mq c) c ++ rest) (by rw [List.length_append]; omega) (by
    obtain ⟨y, t, e⟩ := qb_cons (mq c) c
    have := qb_head' c
    rw [e] at this ⊢; simpa using this) c ((qb (mq c) c).length : Int) (rb_qb mq mq_ok c h0 h1 rest)]
  simp

theorem unq_quo : ∀ (b : List Int) (f p : Nat) (acc behind : List Int), By b → b.length < f → unq f p acc (qbs mq b ++ 34 :: behind) = (acc ++ b, p + (qbs mq b).length + 1, 0)
  | [], f + 1, p, acc, behind, _, _ => by simp [qbs, unq]
  | c :: b, f + 1, p, acc, behind, hb, hf => by
    have hc := hb c (by simp)
    rw [qbs_cons, List.append_assoc, unq_step f p acc c hc.1 hc.2, unq_quo b f _ _ behind (fun x hx => hb x (by simp [hx])) (by simpa using hf)]
    simp; omega
  | [], 0, _, _, _, _, h => by simp at h
  | _ :: _, 0, _, _, _, _, h => by simp at h

theorem unq_cut : ∀ (b : List Int) (f p j : Nat) (acc : List Int), By b → j < f → j ≤ (qbs mq b).length →
    unq f p acc ((qbs mq b).take j) = ([], p + j, 21) ∨ ∃ i, unq f p acc ((qbs mq b).take j) = ([], p + i, 20) ∧ i < j ∧ (qbs mq b).getD i 0 = 92
  | [], f, p, j, acc, _, _, hj => by
    obtain rfl : j = 0 := by simpa [qbs] using hj
    exact .inl (by simp [unq_nil])
  | c :: b, 0, _, _, _, _, h, _ => by omega
  | c :: b, f + 1, p, j, acc, hb, hf, hj => by
    have hc := hb c (by simp)
    rw [qbs_cons] at hj ⊢
    by_cases hq : (qb (mq c) c).length ≤ j
    · rw [List.take_append, List.take_of_length_le hq, unq_step f p acc c hc.1 hc.2]
      rw [List.length_append] at hj
      rcases unq_cut b f (p + (qb (mq c) c).length) (j - (qb (mq c) c).length) (acc ++ [c]) (fun x hx => hb x (by simp [hx])) (by have := (qb_len (mq c) c).1; omega) (by omega) with h | ⟨i, h, hi, h9⟩
      · left; rw [h]; congr 2; omega
      · right
        refine ⟨(qb (mq c) c).length + i, ?_, by omega, ?_⟩
        · rw [h]; congr 2; omega
        · rw [List.getD_eq_getElem?_getD, List.getElem?_append_right (by omega), Nat.add_sub_cancel_left, ← List.getD_eq_getElem?_getD]; exact h9
    · have ht : (qb (mq c) c ++ qbs mq b).take j = (qb (mq c) c).take j := by
        rw [List.take_append, show j - (qb (mq c) c).length = 0 from by omega]; simp
      rw [ht]
      by_cases j0 : j = 0
      · subst j0; exact .inl (by simp [unq_nil])
      · have hr := rb_cut mq mq_ok c hc.1 hc.2 j (by omega) (by omega)
        have hl := (qb_len (mq c) c).1
        right
        refine ⟨0, ?_, by omega, ?_⟩
        · rw [unq_bad f p acc _ (by rw [List.length_take]; omega) ?_ hr.1]; rfl
          have := qb_head' c
          obtain ⟨y, t, e⟩ := qb_cons (mq c) c
          rw [e] at this ⊢
          cases j with
          | zero => omega
          | succ j => simpa using this
        · obtain ⟨y, t, e⟩ := qb_cons (mq c) c
          have := hr.2
          rw [e] at this ⊢
          simpa using this
end Go.Proofs.Ytdgihlelopfdeaa
