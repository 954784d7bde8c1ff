/-
  Plain laws: forms as a whole. No walk here.
-/
import Derived.Test.YtdgihlelopfdeaaPlain
namespace Go.Proofs.Ytdgihlelopfdeaa
open Go.RowKit Q

theorem str_inj {xs ys : List Int} (hx : By xs) (hy : By ys) (h : strOfNums xs = strOfNums ys) : xs = ys := by
  have h1 : xs.map (fun n => UInt8.ofNat n.toNat) = ys.map (fun n => UInt8.ofNat n.toNat) := by
    have := congrArg (fun b : ByteArray => b.data.toList) h
    simpa [strOfNums] using this
  have h2 := congrArg (List.map fun u : UInt8 => (u.toNat : Int)) h1
  have e : ∀ zs : List Int, By zs → (zs.map (fun n => UInt8.ofNat n.toNat)).map (fun u : UInt8 => (u.toNat : Int)) = zs := by
    intro zs
    induction zs with
    | nil => intro _; rfl
    | cons z l ih =>
      intro hz
      have h3 := hz z (by simp)
      rw [List.map_cons, List.map_cons, ih (fun x hx => hz x (by simp [hx]))]
      congr 1
      simp only [UInt8.toNat_ofNat']
      omega
  rw [e xs hx, e ys hy] at h2
  exact h2

theorem rbs_qb (m : Int → Bool) (hm : MkOk m) (f p : Nat) (acc : List Int) (c : Int) (h0 : 0 ≤ c) (h1 : c ≤ 255) (rest : List Int) :
    rbs m (f + 1) p acc (qb (m c) c ++ rest) = rbs m f (p + (qb (m c) c).length) (acc ++ [c]) rest := by
  have hr := rb_qb m hm c h0 h1 rest
  obtain ⟨y, t, e⟩ := qb_cons (m c) c
  rw [e] at hr ⊢
  rw [List.cons_append] at hr ⊢
  rw [rbs, hr]
  simp
theorem rbs_qbs (m : Int → Bool) (hm : MkOk m) : ∀ (a : List Int) (f p : Nat) (acc : List Int), By a → (qbs m a).length ≤ f → rbs m f p acc (qbs m a) = (acc ++ a, p + (qbs m a).length, 0)
  | [], f, p, acc, _, _ => by cases f <;> simp [qbs, rbs]
  | c :: a, 0, p, acc, _, h => by have := (qb_len (m c) c).1; rw [qbs_cons, List.length_append] at h; omega
  | c :: a, f + 1, p, acc, hb, h => by
    have hc := hb c (by simp)
    have := (qb_len (m c) c).1
    rw [qbs_cons, List.length_append] at h
    rw [qbs_cons, rbs_qb m hm f p acc c hc.1 hc.2, rbs_qbs m hm a f _ _ (fun x hx => hb x (by simp [hx])) (by omega)]
    simp; omega
theorem qbs_inj (m : Int → Bool) (hm : MkOk m) {a b : List Int} (ha : By a) (hb : By b) (h : qbs m a = qbs m b) : a = b := by
  have h1 := rbs_qbs m hm a (qbs m a).length 0 [] ha (Nat.le_refl _)
  rw [h, rbs_qbs m hm b (qbs m b).length 0 [] hb (Nat.le_refl _)] at h1
  simpa using (congrArg (·.1) h1).symm

theorem mkd_hexd (x0 x1 x2 x3 n : Int) (h0 : 0 ≤ n) (h1 : n < 16) : mkd x0 x1 x2 x3 (hexd n) = false := by
  have h : n = 0 ∨ n = 1 ∨ n = 2 ∨ n = 3 ∨ n = 4 ∨ n = 5 ∨ n = 6 ∨ n = 7 ∨ n = 8 ∨ n = 9 ∨ n = 10 ∨ n = 11 ∨ n = 12 ∨ n = 13 ∨ n = 14 ∨ n = 15 := by omega
  rcases h with rfl | rfl | rfl | rfl | rfl | rfl | rfl | rfl | rfl | rfl | rfl | rfl | rfl | rfl | rfl | rfl
  all_goals simp [mkd, letter, digit, hexd]

/-- A mark in a form stands just behind a backslash. -/
theorem qb_marks (m : Int → Bool) (hm : MkOk m) (hx : ∀ n, 0 ≤ n → n < 16 → m (hexd n) = false) (c : Int) (h0 : 0 ≤ c) (h1 : c ≤ 255) (i : Nat) (hi : i < (qb (m c) c).length) (h9 : (qb (m c) c).getD i 0 ≠ 92) (hM : m ((qb (m c) c).getD i 0) = true) :
    i ≠ 0 ∧ (qb (m c) c).getD (i - 1) 0 = 92 := by
  have a1 := hx (c / 16) (by omega) (by omega)
  have a2 := hx (c % 16) (by omega) (by omega)
  unfold qb at hi h9 hM ⊢
  by_cases a : c = 10
  · subst a; simp at hi; obtain rfl | rfl : i = 0 ∨ i = 1 := (by omega)
    · simp at h9
    · simp [hm.n] at hM
  by_cases b : c = 13
  · subst b; simp at hi; obtain rfl | rfl : i = 0 ∨ i = 1 := (by omega)
    · simp at h9
    · simp [hm.r] at hM
  by_cases d : c = 9
  · subst d; simp at hi; obtain rfl | rfl : i = 0 ∨ i = 1 := (by omega)
    · simp at h9
    · simp [hm.t] at hM
  rw [if_neg a, if_neg b, if_neg d] at hi h9 hM ⊢
  by_cases e : c < 32 ∨ 126 < c
  · rw [if_pos e] at hi h9 hM ⊢
    simp at hi
    obtain rfl | rfl | rfl | rfl : i = 0 ∨ i = 1 ∨ i = 2 ∨ i = 3 := (by omega)
    · simp at h9
    · simp [hm.x] at hM
    · simp [a1] at hM
    · simp [a2] at hM
  · rw [if_neg e] at hi h9 hM ⊢
    by_cases f : c = 92 ∨ m c = true
    · rw [if_pos f] at hi h9 hM ⊢
      simp at hi
      obtain rfl | rfl : i = 0 ∨ i = 1 := (by omega)
      · simp at h9
      · simp
    · rw [if_neg f] at hi h9 hM
      simp at hi
      subst hi
      simp at hM
      exact absurd (.inr hM) f

theorem qbs_marks (m : Int → Bool) (hm : MkOk m) (hx : ∀ n, 0 ≤ n → n < 16 → m (hexd n) = false) : ∀ (a : List Int) (i : Nat), By a → i < (qbs m a).length → (qbs m a).getD i 0 ≠ 92 → m ((qbs m a).getD i 0) = true → i ≠ 0 ∧ (qbs m a).getD (i - 1) 0 = 92
  | [], i, _, hi, _, _ => by simp [qbs] at hi
  | c :: a, i, hb, hi, h9, hM => by
    have hc := hb c (by simp)
    rw [qbs_cons] at hi h9 hM ⊢
    have gl : ∀ j, j < (qb (m c) c).length → (qb (m c) c ++ qbs m a).getD j 0 = (qb (m c) c).getD j 0 := fun j hj => by
      rw [List.getD_eq_getElem?_getD, List.getElem?_append_left hj, ← List.getD_eq_getElem?_getD]
    have gr : ∀ j, (qb (m c) c).length ≤ j → (qb (m c) c ++ qbs m a).getD j 0 = (qbs m a).getD (j - (qb (m c) c).length) 0 := fun j hj => by
      rw [List.getD_eq_getElem?_getD, List.getElem?_append_right hj, ← List.getD_eq_getElem?_getD]
    by_cases h : i < (qb (m c) c).length
    · rw [gl i h] at h9 hM
      have := qb_marks m hm hx c hc.1 hc.2 i h h9 hM
      exact ⟨this.1, by rw [gl _ (by omega)]; exact this.2⟩
    · rw [gr i (by omega)] at h9 hM
      rw [List.length_append] at hi
      have := qbs_marks m hm hx a (i - (qb (m c) c).length) (fun x hx => hb x (by simp [hx])) (by omega) h9 hM
      refine ⟨by omega, ?_⟩
      rw [gr _ (by omega), show i - 1 - (qb (m c) c).length = i - (qb (m c) c).length - 1 from by omega]
      exact this.2
end Go.Proofs.Ytdgihlelopfdeaa
