/-
  The reference of quote: hex, digit, begins, isMark.
-/
import Derived.Test.YtdgihlelopfdeaaCanon
import Derived.Deep.CutRange
namespace Go.Proofs.Ytdgihlelopfdeaa
open Go.RowKit Q

/-- A set as the reference has it. -/
def Rs (S : Array Value) (h : Int → Bool) : Prop := S.size = 256 ∧ ∀ c : Nat, c < 256 → S[c]? = some (.int .i64 (if h (c : Int) then 1 else 0))
def mkr (h : Int → Bool) (c : Int) : Bool := h c && decide (32 ≤ c) && decide (c ≤ 126) && !letter c && !digit c

theorem hex_low (n : Int) (h0 : 0 ≤ n) (h1 : n < 16) (w : World) : Calls Try.prog 46 #[.int .i64 n, .bool false] w fun e w' => e = .returned (.int .u8 (hexd n)) ∧ w = w' := by
  have hx : ∀ w, (Instr.index 9 (.string ⟨#[48, 49, 50, 51, 52, 53, 54, 55, 56, 57, 97, 98, 99, 100, 101, 102]⟩) (.int .i64 n)).run Try.prog w = .ok (.int .u8 (hexd n)) w := by
    intro w
    have h : n = 0 ∨ n = 1 ∨ n = 2 ∨ n = 3 ∨ n = 4 ∨ n = 5 ∨ n = 6 ∨ n = 7 ∨ n = 8 ∨ n = 9 ∨ n = 10 ∨ n = 11 ∨ n = 12 ∨ n = 13 ∨ n = 14 ∨ n = 15 := by omega
    rcases h with rfl | rfl | rfl | rfl | rfl | rfl | rfl | rfl | rfl | rfl | rfl | rfl | rfl | rfl | rfl | rfl
    all_goals rfl
  go_enter Try.func46, Try.ntmps46
  go_wp2_with fail
  go_ret
  exact ⟨rfl, rfl⟩
theorem hex_up (n : Int) (h0 : 0 ≤ n) (h1 : n < 16) (w : World) : Calls Try.prog 46 #[.int .i64 n, .bool true] w fun e w' => e = .returned (.int .u8 (hexu n)) ∧ w = w' := by
  have hx : ∀ w, (Instr.index 9 (.string ⟨#[48, 49, 50, 51, 52, 53, 54, 55, 56, 57, 65, 66, 67, 68, 69, 70]⟩) (.int .i64 n)).run Try.prog w = .ok (.int .u8 (hexu n)) w := by
    intro w
    have h : n = 0 ∨ n = 1 ∨ n = 2 ∨ n = 3 ∨ n = 4 ∨ n = 5 ∨ n = 6 ∨ n = 7 ∨ n = 8 ∨ n = 9 ∨ n = 10 ∨ n = 11 ∨ n = 12 ∨ n = 13 ∨ n = 14 ∨ n = 15 := by omega
    rcases h with rfl | rfl | rfl | rfl | rfl | rfl | rfl | rfl | rfl | rfl | rfl | rfl | rfl | rfl | rfl | rfl
    all_goals rfl
  go_enter Try.func46, Try.ntmps46
  go_wp2_with fail
  go_ret
  exact ⟨rfl, rfl⟩

/-- The number of a hexadecimal digit, 0 where it is none. -/
def dg (c : Int) : Int := if nib c < 16 then nib c else 0
theorem hexd_ne {c n : Int} (h0 : 0 ≤ n) (h1 : n < 16) (h : ¬ (c = hexd n ∨ c = hexu n)) : nib c ≠ n := by
  intro e
  apply h
  unfold nib at e
  unfold hexd hexu
  split at e
  · left; rw [if_pos (by omega)]; omega
  · split at e
    · right; rw [if_neg (by omega)]; omega
    · split at e
      · left; rw [if_neg (by omega)]; omega
      · omega
theorem hexd_eq {c n : Int} (h0 : 0 ≤ n) (h1 : n < 16) (h : c = hexd n ∨ c = hexu n) : nib c = n := by
  rcases h with rfl | rfl
  · exact nib_hexd n h0 h1
  · exact nib_hexu n h0 h1

set_option maxHeartbeats 1000000 in
theorem digit_any (c : Int) (w : World) (h0 : 0 ≤ c) (h1 : c ≤ 255) : Calls Try.prog 52 #[.int .u8 c] w fun e w' => e = .returned (.int .i64 (dg c)) ∧ w = w' := by
  go_enter Try.func52, Try.ntmps52
  go_wp2_with fail
  go_loopw [3] (fun i wr => ∃ k : Nat, k ≤ 16 ∧ i = .int .i64 k ∧ (∀ j : Nat, j < k → nib c ≠ (j : Int)) ∧ w = wr) (fun i _ => 16 - (intOf i).toNat)
  case atStart => exact ⟨0, by omega, rfl, fun j hj => absurd hj (by omega), rfl⟩
  case round =>
    obtain ⟨k, hk, rfl, hno, rfl⟩ := hrel
    have HNO := Lib.hid hno
    clear hno
    by_cases hlt : k < 16
    · have HL := Lib.hid (fun w => hex_low (k : Int) (by omega) (by omega) w)
      have HU := Lib.hid (fun w => hex_up (k : Int) (by omega) (by omega) w)
      have HE := Lib.hid (fun h => hexd_eq (c := c) (n := (k : Int)) (by omega) (by omega) h)
      have HN := Lib.hid (fun h => hexd_ne (c := c) (n := (k : Int)) (by omega) (by omega) h)
      generalize hexd (k : Int) = u at *
      generalize hexu (k : Int) = v at *
      by_cases e1 : c = u
      · have HD : Hid (dg c = (k : Int)) := by
          show _ = _
          have := HE.out (.inl e1)
          unfold dg; rw [this, if_pos (by omega)]
        have b1 : (c == u) = true := beq_iff_eq.2 e1
        clear e1 HE HN
        go_wp2_with (first | (go_at_call_of 46 (Value.bool false); refine (HL.out _).mono ?_; rintro e w5 ⟨rfl, rfl⟩) | (go_at_call_of 46 (Value.bool true); refine (HU.out _).mono ?_; rintro e w5 ⟨rfl, rfl⟩))
        go_ret
        exact ⟨ret_int HD.out.symm, rfl⟩
      · have b1 : (c == u) = false := beq_eq_false_iff_ne.2 e1
        by_cases e2 : c = v
        · have HD : Hid (dg c = (k : Int)) := by
            show _ = _
            have := HE.out (.inr e2)
            unfold dg; rw [this, if_pos (by omega)]
          have b2 : (c == v) = true := beq_iff_eq.2 e2
          clear e1 e2 HE HN
          go_wp2_with (first | (go_at_call_of 46 (Value.bool false); refine (HL.out _).mono ?_; rintro e w5 ⟨rfl, rfl⟩) | (go_at_call_of 46 (Value.bool true); refine (HU.out _).mono ?_; rintro e w5 ⟨rfl, rfl⟩))
          go_ret
          exact ⟨ret_int HD.out.symm, rfl⟩
        · have b2 : (c == v) = false := beq_eq_false_iff_ne.2 e2
          have HN2 := Lib.hid (HN.out (by rintro (h | h); exact e1 h; exact e2 h))
          clear e1 e2 HE HN
          go_wp2_with (first | (go_at_call_of 46 (Value.bool false); refine (HL.out _).mono ?_; rintro e w5 ⟨rfl, rfl⟩) | (go_at_call_of 46 (Value.bool true); refine (HU.out _).mono ?_; rintro e w5 ⟨rfl, rfl⟩))
          go_roundw
          case rel =>
            refine ⟨k + 1, by omega, by go_num, fun j hj => ?_, by trivial⟩
            by_cases ej : j = k
            · subst ej; exact HN2.out
            · exact HNO.out j (by omega)
          case measure => simp [intOf]; omega
    · have hD : dg c = 0 := by
        have := nib_range c
        unfold dg
        rw [if_neg]
        intro h
        exact HNO.out (nib c).toNat (by omega) (by omega)
      go_wp2_with fail
      go_ret
      exact ⟨ret_int hD.symm, rfl⟩

theorem str_beq {xs ys : List Int} (hx : By xs) (hy : By ys) : ((strOfNums xs).toList == (strOfNums ys).toList) = decide (xs = ys) := by
  by_cases h : xs = ys
  · subst h; simp
  · rw [decide_eq_false h, beq_eq_false_iff_ne]
    intro e
    rw [ByteArray.toList_eq, ByteArray.toList_eq] at e
    exact h (str_inj hx hy (ByteArray.ext (Array.toList_inj.1 e)))

set_option maxHeartbeats 1000000 in
theorem begins_any (xs ys : List Int) (w : World) (hx : By xs) (hy : By ys) (hl : xs.length ≤ 1000000000) (hl2 : ys.length ≤ 1000000000) :
    Calls Try.prog 45 #[.string (strOfNums xs), .string (strOfNums ys)] w fun e w' => e = .returned (.bool (decide (ys <+: xs))) ∧ w = w' := by
  have hsx := strOfNums_size xs
  have hsy := strOfNums_size ys
  by_cases h : ys.length ≤ xs.length
  · have hsl := slice_to xs ys.length h
    have hq := str_beq (by_take hx ys.length) hy
    have hD : Hid (decide (xs.take ys.length = ys) = decide (ys <+: xs)) := by
      show _ = _
      congr 1
      rw [List.prefix_iff_eq_take]
      exact propext ⟨fun h => h.symm, fun h => h.symm⟩
    generalize strOfNums (xs.take ys.length) = st at *
    generalize strOfNums xs = sx at *
    generalize strOfNums ys = sy at *
    have hle : (ys.length : Int) ≤ (xs.length : Int) := by omega
    generalize decide (xs.take ys.length = ys) = b at *
    generalize decide (ys <+: xs) = b2 at *
    clear hx hy
    cases hD.out
    clear hD
    go_enter Try.func45, Try.ntmps45
    go_wp2_with fail
    go_ret
    exact ⟨rfl, rfl⟩
  · have hD : Hid (decide (ys <+: xs) = false) := by
      show _ = _
      rw [decide_eq_false_iff_not]
      intro h'
      exact h h'.length_le
    have hle : ¬ (ys.length : Int) ≤ (xs.length : Int) := by omega
    clear h
    go_enter Try.func45, Try.ntmps45
    go_wp2_with fail
    go_ret
    exact ⟨ret_bool hD.out.symm, rfl⟩

set_option maxHeartbeats 4000000 in
theorem rmark_any (S : Array Value) (h : Int → Bool) (c : Int) (w : World) (hS : Rs S h) (h0 : 0 ≤ c) (h1 : c ≤ 255) :
    Calls Try.prog 47 #[.agg S, .int .u8 c] w fun e w' => e = .returned (.bool (mkr h c)) ∧ Below w.heap.size w w' := by
  have hc : S[c.toNat]? = some (.int .i64 (if h c then 1 else 0)) := by have := hS.2 c.toNat (by omega); rw [Int.toNat_of_nonneg h0] at this; exact this
  have hcell : (w.alloc (.cells S 60)).cell? ⟨w.heap.size, c.toNat, none⟩ = some (.int .i64 (if h c then 1 else 0)) := ((Blk.new w 60 S).cell c.toNat).trans hc
  have hm : ∀ b : Bool, h c = b → mkr h c = (b && decide (32 ≤ c) && decide (c ≤ 126) && !((decide (65 ≤ c) && decide (c ≤ 90)) || (decide (97 ≤ c) && decide (c ≤ 122))) && !(decide (48 ≤ c) && decide (c ≤ 57))) := by
    intro b e; rw [← e]; rfl
  clear hc hS
  generalize h c = b at *
  have HM := Lib.hid (hm b rfl)
  clear hm
  cases b with
  | false =>
    rw [if_neg (by simp)] at hcell
    go_enter Try.func47, Try.ntmps47
    go_wp2_with fail
    all_goals go_ret
    all_goals exact ⟨ret_bool (by rw [HM.out]; simp), by go_grown⟩
  | true =>
    rw [if_pos rfl] at hcell
    go_enter Try.func47, Try.ntmps47
    go_wp2_with fail
    all_goals go_ret
    all_goals refine ⟨ret_bool ?_, by go_grown⟩
    all_goals rw [HM.out]
    all_goals first | rfl | (clear hcell; rw [Bool.eq_iff_iff]; simp; omega)
end Go.Proofs.Ytdgihlelopfdeaa
