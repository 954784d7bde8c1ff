/-
  QuoteCanonical: the plain laws. No walk here.
-/
import Derived.Test.YtdgihlelopfdeaaBack
namespace Go.Proofs.Ytdgihlelopfdeaa
open Go.RowKit Q

/-- A hexadecimal digit in upper case. -/
def hexu (n : Int) : Int := if n < 10 then 48 + n else 55 + n
theorem nib_hexu (n : Int) (h0 : 0 ≤ n) (h1 : n < 16) : nib (hexu n) = n := by
  unfold hexu nib
  split
  · rw [if_pos (by omega)]; omega
  · rw [if_neg (by omega), if_pos (by omega)]; omega
theorem hexu_range {n : Int} (h0 : 0 ≤ n) (h1 : n < 16) : 48 ≤ hexu n ∧ hexu n ≤ 102 := by unfold hexu; split <;> omega

/-- How a byte is written. -/
def fm (m : Int → Bool) (c way : Int) : List Int :=
  if way = 0 then qb (m c) c else if way = 1 then [92, 120, hexd (c / 16), hexu (c % 16)] else [92, 120, hexu (c / 16), hexd (c % 16)]
/-- Which way the byte of an index is written. -/
def wy (zs : List Int) (i : Nat) : Int := if zs.length = 0 then 0 else zs.getD (i % zs.length) 0 % 4
/-- The whole, from an index on. -/
def fms (m : Int → Bool) (zs : List Int) : Nat → List Int → List Int
  | _, [] => []
  | i, c :: t => fm m c (wy zs i) ++ fms m zs (i + 1) t

theorem rb_fm (m : Int → Bool) (hm : MkOk m) (c way : Int) (h0 : 0 ≤ c) (h1 : c ≤ 255) (rest : List Int) : rb m (fm m c way ++ rest) = (c, ((fm m c way).length : Int), 0) := by
  have n1 := nib_hexd (c / 16) (by omega) (by omega)
  have n2 := nib_hexd (c % 16) (by omega) (by omega)
  have u1 := nib_hexu (c / 16) (by omega) (by omega)
  have u2 := nib_hexu (c % 16) (by omega) (by omega)
  have l1 : c / 16 < 16 := by omega
  have l2 : c % 16 < 16 := by omega
  unfold fm
  by_cases a : way = 0
  · rw [if_pos a]; exact rb_qb m hm c h0 h1 rest
  · rw [if_neg a]
    by_cases b : way = 1
    · rw [if_pos b]
      simp only [List.cons_append, List.nil_append, rb]
      simp [hm.x, n1, u2, l1, l2]
      omega
    · rw [if_neg b]
      simp only [List.cons_append, List.nil_append, rb]
      simp [hm.x, n2, u1, l1, l2]
      omega
theorem fm_len (m : Int → Bool) (c way : Int) : 1 ≤ (fm m c way).length ∧ (qb (m c) c).length ≤ (fm m c way).length ∧ (fm m c way).length ≤ 4 := by
  have := qb_len (m c) c
  unfold fm
  split
  · omega
  · split <;> simp <;> omega
theorem by_fm (m : Int → Bool) (c way : Int) (h0 : 0 ≤ c) (h1 : c ≤ 255) : By (fm m c way) := by
  intro x hx
  have a := hexd_range (n := c / 16) (by omega) (by omega)
  have b := hexd_range (n := c % 16) (by omega) (by omega)
  have a2 := hexu_range (n := c / 16) (by omega) (by omega)
  have b2 := hexu_range (n := c % 16) (by omega) (by omega)
  unfold fm at hx
  split at hx
  · have := qb_range (m c) h0 h1 x hx; omega
  · split at hx
    · simp at hx; omega
    · simp at hx; omega
theorem fms_append (m : Int → Bool) (zs : List Int) : ∀ (a b : List Int) (i : Nat), fms m zs i (a ++ b) = fms m zs i a ++ fms m zs (i + a.length) b
  | [], b, i => by simp [fms]
  | c :: a, b, i => by
    rw [List.cons_append, fms, fms, fms_append m zs a b (i + 1), List.append_assoc, List.length_cons, show i + 1 + a.length = i + (a.length + 1) from by omega]
theorem fms_snoc (m : Int → Bool) (zs xs : List Int) {k : Nat} (hk : k < xs.length) : fms m zs 0 (xs.take (k + 1)) = fms m zs 0 (xs.take k) ++ fm m (xs.getD k 0) (wy zs k) := by
  rw [List.take_succ_eq_append_getElem hk, fms_append, List.getD_eq_getElem?_getD, List.getElem?_eq_getElem hk, List.length_take, Nat.zero_add, Nat.min_eq_left (by omega)]
  simp [fms]
theorem fms_len (m : Int → Bool) (zs : List Int) : ∀ (a : List Int) (i : Nat), (qbs m a).length ≤ (fms m zs i a).length ∧ (fms m zs i a).length ≤ 4 * a.length
  | [], i => by simp [fms, qbs]
  | c :: a, i => by
    have := fm_len m c (wy zs i)
    have := fms_len m zs a (i + 1)
    rw [fms, qbs_cons, List.length_append, List.length_append, List.length_cons]
    omega
theorem by_fms (m : Int → Bool) (zs : List Int) : ∀ (a : List Int) (i : Nat), By a → By (fms m zs i a)
  | [], i, _ => by intro x hx; simp [fms] at hx
  | c :: a, i, h => by
    have hc := h c (by simp)
    rw [fms]
    exact by_append (by_fm m c _ hc.1 hc.2) (by_fms m zs a (i + 1) (fun x hx => h x (by simp [hx])))
theorem rbs_fms (m : Int → Bool) (hm : MkOk m) (zs : List Int) : ∀ (a : List Int) (f p i : Nat) (acc : List Int), By a → (fms m zs i a).length ≤ f → rbs m f p acc (fms m zs i a) = (acc ++ a, p + (fms m zs i a).length, 0)
  | [], f, p, i, acc, _, _ => by cases f <;> simp [fms, rbs]
  | c :: a, 0, p, i, acc, _, h => by have := (fm_len m c (wy zs i)).1; rw [fms, List.length_append] at h; omega
  | c :: a, f + 1, p, i, acc, hb, h => by
    have hc := hb c (by simp)
    have hl := fm_len m c (wy zs i)
    have hr := rb_fm m hm c (wy zs i) hc.1 hc.2 (fms m zs (i + 1) a)
    have ih := rbs_fms m hm zs a f (p + (fm m c (wy zs i)).length) (i + 1) (acc ++ [c]) (fun x hx => hb x (by simp [hx])) (by rw [fms, List.length_append] at h; omega)
    rw [fms]
    generalize fm m c (wy zs i) = u at *
    cases u with
    | nil => simp at hl
    | cons y t =>
      rw [List.cons_append] at hr ⊢
      rw [rbs, hr, if_pos rfl]
      have e : ((y :: (t ++ fms m zs (i + 1) a)).drop (((y :: t).length : Int).toNat)) = fms m zs (i + 1) a := by simp
      dsimp only
      rw [e, Int.toNat_natCast, ih]
      simp; omega
end Go.Proofs.Ytdgihlelopfdeaa
