/-
  Plain facts on sets of bytes given by four words, and on marks. No program here.
-/
import Derived.Laws.BitsAllLaws
import Derived.WalkSmall
namespace Go.Proofs.Ytdgihlelopfdeaa.Q
open Go

/-- Whether the set of four words has the byte c. -/
def has (x0 x1 x2 x3 : Int) (c : Int) : Bool :=
  decide (((if c < 64 then x0 else if c < 128 then x1 else if c < 192 then x2 else x3) / 2 ^ (c % 64).toNat) % 2 = 1)
def letter (c : Int) : Bool := (decide (65 ≤ c) && decide (c ≤ 90)) || (decide (97 ≤ c) && decide (c ≤ 122))
def digit (c : Int) : Bool := decide (48 ≤ c) && decide (c ≤ 57)
/-- What counts as a mark. -/
def mkd (x0 x1 x2 x3 : Int) (c : Int) : Bool := has x0 x1 x2 x3 c && decide (32 ≤ c) && decide (c ≤ 126) && !letter c && !digit c

/-- The words are words. -/
def Words (x0 x1 x2 x3 : Int) : Prop := (0 ≤ x0 ∧ x0 ≤ 18446744073709551615) ∧ (0 ≤ x1 ∧ x1 ≤ 18446744073709551615) ∧ (0 ≤ x2 ∧ x2 ≤ 18446744073709551615) ∧ (0 ≤ x3 ∧ x3 ≤ 18446744073709551615)

theorem low_eq (x k : Int) (h0 : 0 ≤ x) (h1 : x ≤ 18446744073709551615) : (bits .and .u64 (x / 2 ^ k.toNat) 1 == 1) = decide (x / 2 ^ k.toNat % 2 = 1) := by
  have hp : (0 : Int) < 2 ^ k.toNat := Int.pow_pos (by omega)
  have l0 : 0 ≤ x / 2 ^ k.toNat := Int.ediv_nonneg h0 (by omega)
  have l1 : x / 2 ^ k.toNat ≤ x := Int.ediv_le_self _ h0
  rw [Go.and_one_u64 _ l0 (by omega)]
  rw [Bool.eq_iff_iff]; simp

theorem letter_or (c : Int) (h0 : 0 ≤ c) (h1 : c ≤ 255) : (decide (97 ≤ bits .or .u8 c 32) && decide (bits .or .u8 c 32 ≤ 122)) = letter c ∨ c < 32 ∨ 126 < c := by
  obtain ⟨n, rfl⟩ := Int.eq_ofNat_of_zero_le h0
  have hn : n < 256 := by omega
  have H : ∀ m : Fin 256, (decide (97 ≤ bits .or .u8 ((m.val : Nat) : Int) 32) && decide (bits .or .u8 ((m.val : Nat) : Int) 32 ≤ 122)) = letter ((m.val : Nat) : Int) ∨ ((m.val : Nat) : Int) < 32 ∨ 126 < ((m.val : Nat) : Int) := by decide +kernel
  exact H ⟨n, hn⟩

theorem mark_or (x0 x1 x2 x3 c : Int) (h0 : 0 ≤ c) (h1 : c ≤ 255) : mkd x0 x1 x2 x3 c =
    (has x0 x1 x2 x3 c && decide (32 ≤ c) && decide (c ≤ 126) && !(decide (97 ≤ bits .or .u8 c 32) && decide (bits .or .u8 c 32 ≤ 122)) && !(decide (48 ≤ c) && decide (c ≤ 57))) := by
  rcases letter_or c h0 h1 with h | h | h
  · rw [h]; rfl
  · have : decide (32 ≤ c) = false := by rw [decide_eq_false_iff_not]; omega
    simp [mkd, this]
  · have : decide (c ≤ 126) = false := by rw [decide_eq_false_iff_not]; omega
    simp [mkd, this]

/-- A hexadecimal digit. -/
def hexd (n : Int) : Int := if n < 10 then 48 + n else 87 + n
/-- The form of a byte. -/
def qb (m : Bool) (c : Int) : List Int :=
  if c = 10 then [92, 110] else if c = 13 then [92, 114] else if c = 9 then [92, 116]
  else if c < 32 ∨ 126 < c then [92, 120, hexd (c / 16), hexd (c % 16)]
  else if c = 92 ∨ m = true then [92, c] else [c]
/-- A list of bytes. -/
def By (xs : List Int) : Prop := ∀ x ∈ xs, 0 ≤ x ∧ x ≤ 255
/-- The form of bytes. -/
def qbs (m : Int → Bool) (xs : List Int) : List Int := xs.flatMap fun c => qb (m c) c

theorem hexd_range {n : Int} (h0 : 0 ≤ n) (h1 : n < 16) : 48 ≤ hexd n ∧ hexd n ≤ 102 := by unfold hexd; split <;> omega
theorem qb_range (m : Bool) {c : Int} (h0 : 0 ≤ c) (h1 : c ≤ 255) : ∀ x ∈ qb m c, 32 ≤ x ∧ x ≤ 126 := by
  intro x hx
  have a := hexd_range (n := c / 16) (by omega) (by omega)
  have b := hexd_range (n := c % 16) (by omega) (by omega)
  unfold qb at hx
  split at hx
  · simp at hx; omega
  split at hx
  · simp at hx; omega
  split at hx
  · simp at hx; omega
  split at hx
  · simp at hx; omega
  split at hx
  · simp at hx; omega
  · simp at hx; omega
theorem qb_len (m : Bool) (c : Int) : 1 ≤ (qb m c).length ∧ (qb m c).length ≤ 4 := by
  unfold qb
  repeat' split
  all_goals simp
theorem qbs_range (m : Int → Bool) {xs : List Int} (h : By xs) : ∀ x ∈ qbs m xs, 32 ≤ x ∧ x ≤ 126 := by
  intro x hx
  obtain ⟨c, hc, hx⟩ := List.mem_flatMap.1 hx
  exact qb_range _ (h c hc).1 (h c hc).2 x hx
theorem qbs_nil (m : Int → Bool) : qbs m [] = [] := rfl
theorem qbs_cons (m : Int → Bool) (c : Int) (xs : List Int) : qbs m (c :: xs) = qb (m c) c ++ qbs m xs := rfl
theorem qbs_append (m : Int → Bool) (xs ys : List Int) : qbs m (xs ++ ys) = qbs m xs ++ qbs m ys := by unfold qbs; exact List.flatMap_append
theorem qbs_len (m : Int → Bool) (xs : List Int) : xs.length ≤ (qbs m xs).length ∧ (qbs m xs).length ≤ 4 * xs.length := by
  induction xs with
  | nil => simp [qbs]
  | cons c l ih =>
    have := qb_len (m c) c
    rw [qbs_cons, List.length_append, List.length_cons]
    omega
theorem qbs_snoc (m : Int → Bool) (xs : List Int) {k : Nat} (hk : k < xs.length) : qbs m (xs.take (k + 1)) = qbs m (xs.take k) ++ qb (m (xs.getD k 0)) (xs.getD k 0) := by
  rw [List.take_succ_eq_append_getElem hk, qbs_append, List.getD_eq_getElem?_getD, List.getElem?_eq_getElem hk]
  simp [qbs]
end Go.Proofs.Ytdgihlelopfdeaa.Q
