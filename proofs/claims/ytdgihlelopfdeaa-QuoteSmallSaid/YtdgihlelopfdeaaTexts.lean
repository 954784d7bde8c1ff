/-
  QuoteTexts: the walk.
-/
import Derived.Test.YtdgihlelopfdeaaAwake
import Derived.Test.YtdgihlelopfdeaaPlain
namespace Go.Proofs.Ytdgihlelopfdeaa
open Go.RowKit Q

theorem str_take (xs : List Int) (k : Nat) : (strOfNums xs).extract 0 k = strOfNums (xs.take k) := by
  apply ByteArray.ext
  simp [strOfNums]
theorem slice_to (xs : List Int) (k : Nat) (hk : k ≤ xs.length) (w : World) : (Instr.slice 9 (.string (strOfNums xs)) none (some (.int .i64 (k : Int))) none).run Try.prog w = .ok (.string (strOfNums (xs.take k))) w := by
  have hs := strOfNums_size xs
  rw [run_slice_string_h (P := Try.prog) w 9 (strOfNums xs) Try.underlying9 .i64 (k : Int) (by omega) (by omega)]
  rw [Int.toNat_natCast, str_take]

theorem cut150 (xs : List Int) : (strOfNums xs).extract 0 (min (xs.length : Int) 150).toNat = strOfNums (xs.take 150) := by
  rw [str_take]
  congr 1
  by_cases h : xs.length ≤ 150
  · rw [List.take_of_length_le (by omega), List.take_of_length_le h]
  · congr 1; omega
theorem cut100 (xs : List Int) : (strOfNums xs).extract 0 (min (xs.length : Int) 100).toNat = strOfNums (xs.take 100) := by
  rw [str_take]
  congr 1
  by_cases h : xs.length ≤ 100
  · rw [List.take_of_length_le (by omega), List.take_of_length_le h]
  · congr 1; omega

theorem by_append {xs ys : List Int} (h : By xs) (k : By ys) : By (xs ++ ys) := by
  intro x hx
  rcases List.mem_append.1 hx with hx | hx
  · exact h x hx
  · exact k x hx
theorem by_qbs (m : Int → Bool) {xs : List Int} (h : By xs) : By (qbs m xs) := fun x hx => by have := qbs_range m h x hx; omega
theorem by_quo {xs : List Int} (h : By xs) : By (quo xs) := by_append (by_append (by_dec _ (by decide)) (by_qbs mq h)) (by_dec _ (by decide))
theorem quo_len (xs : List Int) : (quo xs).length = (qbs mq xs).length + 2 := by simp [quo]
theorem quo_first (xs : List Int) : (quo xs).getD 0 0 = 34 := by simp [quo]
theorem quo_last (xs : List Int) : (quo xs).getD ((quo xs).length - 1) 0 = 34 := by
  rw [quo_len, quo, List.getD_eq_getElem?_getD, List.getElem?_append_right (by simp)]
  simp
theorem unquo_quo (a b : List Int) (ha : By a) : unquo (quo a ++ b) = (a, (quo a).length, 0) := by
  rw [quo_len, quo]
  simp only [List.cons_append, List.nil_append, List.append_assoc]
  rw [unquo, if_pos rfl, unq_quo a _ 1 [] b ha (by have := (qbs_len mq a).1; simp; omega)]
  simp; omega
theorem unquo_cut (a : List Int) (ha : By a) (k : Nat) (hk : k < (quo a).length) :
    unquo ((quo a).take k) = ([], k, 21) ∨ ∃ i, unquo ((quo a).take k) = ([], i, 20) ∧ 0 < i ∧ i < k ∧ (quo a).getD i 0 = 92 := by
  rw [quo_len] at hk
  cases k with
  | zero => left; simp [unquo]
  | succ j =>
    have e : (quo a).take (j + 1) = 34 :: (qbs mq a).take j := by
      rw [quo]
      simp only [List.cons_append, List.nil_append, List.take_succ_cons]
      rw [List.take_append_of_le_length (by omega)]
    rw [e, unquo, if_pos rfl]
    have hf : ((qbs mq a).take j).length = j := by rw [List.length_take]; omega
    rw [hf]
    rcases unq_cut a (j + 1) 1 j [] ha (by omega) (by omega) with h | ⟨i, h, hi, h9⟩
    · left; rw [h]; congr 2; omega
    · right
      refine ⟨1 + i, h, by omega, by omega, ?_⟩
      rw [quo, List.append_assoc, List.getD_eq_getElem?_getD, List.getElem?_append_right (by simp), List.length_singleton, Nat.add_sub_cancel_left, List.getElem?_append_left (by omega), ← List.getD_eq_getElem?_getD]
      exact h9
theorem unquo_x (s : List Int) : unquo ([120] ++ s) = ([], 0, 21) := by simp [unquo]

set_option maxRecDepth 100000 in
set_option maxHeartbeats 8000000 in
theorem texts_any (xs ys : List Int) (cut : Int) (w : World) (hx : By xs) (hy : By ys) (hc0 : 0 ≤ cut) (hc1 : cut ≤ 65535) (h63 : xs.length ≤ 9223372036854775807) (h64 : ys.length ≤ 9223372036854775807) :
    Calls Try.prog 4 #[.string (strOfNums xs), .string (strOfNums ys), .int .u16 cut] w fun e w' => e = .returned (.bool true) ∧ Below w.heap.size w w' := by
  have hsx := strOfNums_size xs
  have hsy := strOfNums_size ys
  go_enter Try.func4, Try.ntmps4
  go_wp2_with (first | (go_at_call 10; refine (awake_any _).mono ?_; rintro e w1 ⟨rfl, hb1⟩))
  go_region
  rw [cut150 xs, cut150 ys]
  have ha := by_take hx 150
  have hb := by_take hy 150
  have hla : (xs.take 150).length ≤ 150 := by rw [List.length_take]; omega
  have hlb : (ys.take 150).length ≤ 150 := by rw [List.length_take]; omega
  generalize xs.take 150 = a at *
  generalize ys.take 150 = b at *
  clear hsx hsy hx hy h63 h64
  have hB1 := hb1.drew
  have hz1 := hb1.size
  clear hb1
  have hq := quo_len a
  have hql := (qbs_len mq a).2
  have hbs := by_quo ha
  have u1 := unquo_quo a b ha
  have u3 := unquo_x (quo a)
  have u2 := Lib.hid (unquo_cut a ha)
  have g0 := quo_first a
  have g1 := quo_last a
  have HQ := Lib.hid (fun w => quote_any a w ha (by omega))
  clear hq
  have hq : 2 ≤ (quo a).length ∧ (quo a).length ≤ 602 := by rw [quo_len]; omega
  clear hql
  generalize quo a = s at *
  obtain ⟨hq1, hq2⟩ := hq
  have hss := strOfNums_size s
  have hsb := strOfNums_size b
  have HU1 : Hid (∀ w : World, Calls Try.prog 12 #[.string (strOfNums s ++ strOfNums b)] w fun e w' => e = .returned (.tuple #[.string (strOfNums a), .int .i64 (s.length : Int), .int .i64 0]) ∧ Below w.heap.size w w') := by
    show ∀ _, _
    intro w
    have h := unquo_any (s ++ b) w (by_append hbs hb) (by rw [List.length_append]; omega)
    rw [u1, ← str_append] at h
    exact h
  have HU3 : Hid (∀ w : World, Calls Try.prog 12 #[.string (⟨#[120]⟩ ++ strOfNums s)] w fun e w' => e = .returned (.tuple #[.string ⟨#[]⟩, .int .i64 0, .int .i64 21]) ∧ Below w.heap.size w w') := by
    show ∀ _, _
    intro w
    have h := unquo_any ([120] ++ s) w (by_append (by_dec _ (by decide)) hbs) (by rw [List.length_append]; simp; omega)
    rw [u3, ← str_append] at h
    exact h
  clear u1 u3
  have i0 := idx_lit hbs 0 (by omega) 34 0 rfl g0
  have i1 := idx_lit hbs (s.length - 1) (by omega) 34 ((s.length : Int) - 1) (by omega) g1
  clear g0 g1
  go_wp2_with fail
  refine (HQ.out _).mono ?_
  rintro e w2 ⟨rfl, hb2⟩
  have hB2 := hB1.trans (hb2.mono hz1)
  have hz2 : w.heap.size ≤ w2.heap.size := hB2.size
  clear hb2 HQ hB1
  go_wp2_with fail
  refine (HU1.out _).mono ?_
  rintro e w3 ⟨rfl, hb3⟩
  have hB3 := hB2.trans (hb3.mono hz2)
  have hz3 : w.heap.size ≤ w3.heap.size := hB3.size
  clear hb3 HU1 hB2
  have hk0 : 0 ≤ cut % (s.length : Int) := Int.emod_nonneg _ (by omega)
  have hk1 : cut % (s.length : Int) < (s.length : Int) := Int.emod_lt_of_pos _ (by omega)
  go_wp2_with fail
  rw [str_take s]
  generalize cut % (s.length : Int) = K at *
  obtain ⟨k, rfl⟩ := Int.eq_ofNat_of_zero_le hk0
  rw [Int.toNat_natCast]
  have hkn : k < s.length := by omega
  clear i0 i1 hk0 hk1 hc0 hc1
  rcases u2.out k hkn with h | ⟨i, h, hi0, hik, h9⟩
  · have HU2 : Hid (∀ w : World, Calls Try.prog 12 #[.string (strOfNums (s.take k))] w fun e w' => e = .returned (.tuple #[.string ⟨#[]⟩, .int .i64 (k : Int), .int .i64 21]) ∧ Below w.heap.size w w') := by
      show ∀ _, _
      intro w
      have h2 := unquo_any (s.take k) w (by_take hbs k) (by rw [List.length_take]; omega)
      rw [h] at h2
      exact h2
    clear h u2
    refine (HU2.out _).mono ?_
    rintro e w4 ⟨rfl, hb4⟩
    have hB4 := hB3.trans (hb4.mono hz3)
    have hz4 : w.heap.size ≤ w4.heap.size := hB4.size
    clear hb4 HU2 hB3
    go_wp2_with fail
    refine (HU3.out _).mono ?_
    rintro e w5 ⟨rfl, hb5⟩
    have hB5 := hB4.trans (hb5.mono hz4)
    clear hb5 HU3 hB4
    go_wp2_with fail
    go_ret
    exact ⟨rfl, hB5⟩
  · have HU2 : Hid (∀ w : World, Calls Try.prog 12 #[.string (strOfNums (s.take k))] w fun e w' => e = .returned (.tuple #[.string ⟨#[]⟩, .int .i64 (i : Int), .int .i64 20]) ∧ Below w.heap.size w w') := by
      show ∀ _, _
      intro w
      have h2 := unquo_any (s.take k) w (by_take hbs k) (by rw [List.length_take]; omega)
      rw [h] at h2
      exact h2
    clear h u2
    have i2 := idx_lit hbs i (by omega) 92 (i : Int) rfl h9
    clear h9
    refine (HU2.out _).mono ?_
    rintro e w4 ⟨rfl, hb4⟩
    have hB4 := hB3.trans (hb4.mono hz3)
    have hz4 : w.heap.size ≤ w4.heap.size := hB4.size
    clear hb4 HU2 hB3
    go_wp2_with fail
    refine (HU3.out _).mono ?_
    rintro e w5 ⟨rfl, hb5⟩
    have hB5 := hB4.trans (hb5.mono hz4)
    clear hb5 HU3 hB4
    go_wp2_with fail
    go_ret
    exact ⟨rfl, hB5⟩
end Go.Proofs.Ytdgihlelopfdeaa
