/-
  Sets of bytes: Has, and what a mark is.
-/
import Derived.Test.YtdgihlelopfdeaaProg
import Derived.Test.YtdgihlelopfdeaaWords
import Derived.Test.YtdgihlelopfdeaaMath
import Derived.WalkKit
import Derived.WalkLawsBesides
import Derived.WalkSpells
import Derived.Lib.Hide
import Derived.Lib.MinMax
import Derived.Handy
import Derived.Outline
import Derived.BigQuiet
import Derived.Deep.QuietTactic
namespace Go.Proofs.Ytdgihlelopfdeaa
open Go.RowKit Q

theorem ret_bool {a b : Bool} (h : a = b) : Ending.returned (.bool a) = .returned (.bool b) := by rw [h]
theorem ret_int {k : IntKind} {a b : Int} (h : a = b) : Ending.returned (.int k a) = .returned (.int k b) := by rw [h]

set_option maxHeartbeats 800000 in
/-- sets.Has. -/
theorem has_any (x0 x1 x2 x3 c : Int) (w : World) (hw : Words x0 x1 x2 x3) (hc0 : 0 ≤ c) (hc1 : c ≤ 255) :
    Calls Try.prog 39 #[.agg #[.int .u64 x0, .int .u64 x1, .int .u64 x2, .int .u64 x3], .int .u8 c] w fun e w' => e = .returned (.bool (has x0 x1 x2 x3 c)) ∧ Below w.heap.size w w' := by
  obtain ⟨h0, h1, h2, h3⟩ := hw
  have hq2 : c / 64 < 4 := by omega
  have hq3 : 0 ≤ c / 64 := by omega
  by_cases k0 : c < 64
  · have hq : (c / 64).toNat = 0 := by omega
    have E := Lib.hid (low_eq x0 (c % 64) h0.1 h0.2)
    have F : Hid (has x0 x1 x2 x3 c = decide (x0 / 2 ^ (c % 64).toNat % 2 = 1)) := by unfold has; rw [if_pos k0]; exact rfl
    clear h0 h1 h2 h3
    go_enter Try.func39, Try.ntmps39
    go_wp2
    go_ret
    exact ⟨ret_bool (E.out.trans F.out.symm), by go_grown⟩
  by_cases k1 : c < 128
  · have hq : (c / 64).toNat = 1 := by omega
    have E := Lib.hid (low_eq x1 (c % 64) h1.1 h1.2)
    have F : Hid (has x0 x1 x2 x3 c = decide (x1 / 2 ^ (c % 64).toNat % 2 = 1)) := by unfold has; rw [if_neg k0, if_pos k1]; exact rfl
    clear h0 h1 h2 h3
    go_enter Try.func39, Try.ntmps39
    go_wp2
    go_ret
    exact ⟨ret_bool (E.out.trans F.out.symm), by go_grown⟩
  by_cases k2 : c < 192
  · have hq : (c / 64).toNat = 2 := by omega
    have E := Lib.hid (low_eq x2 (c % 64) h2.1 h2.2)
    have F : Hid (has x0 x1 x2 x3 c = decide (x2 / 2 ^ (c % 64).toNat % 2 = 1)) := by unfold has; rw [if_neg k0, if_neg k1, if_pos k2]; exact rfl
    clear h0 h1 h2 h3
    go_enter Try.func39, Try.ntmps39
    go_wp2
    go_ret
    exact ⟨ret_bool (E.out.trans F.out.symm), by go_grown⟩
  · have hq : (c / 64).toNat = 3 := by omega
    have E := Lib.hid (low_eq x3 (c % 64) h3.1 h3.2)
    have F : Hid (has x0 x1 x2 x3 c = decide (x3 / 2 ^ (c % 64).toNat % 2 = 1)) := by unfold has; rw [if_neg k0, if_neg k1, if_neg k2]; exact rfl
    clear h0 h1 h2 h3
    go_enter Try.func39, Try.ntmps39
    go_wp2
    go_ret
    exact ⟨ret_bool (E.out.trans F.out.symm), by go_grown⟩

set_option maxHeartbeats 800000 in
/-- quote.isMark. -/
theorem mark_any (x0 x1 x2 x3 c : Int) (w : World) (hw : Words x0 x1 x2 x3) (hc0 : 0 ≤ c) (hc1 : c ≤ 255) :
    Calls Try.prog 35 #[.agg #[.int .u64 x0, .int .u64 x1, .int .u64 x2, .int .u64 x3], .int .u8 c] w fun e w' => e = .returned (.bool (mkd x0 x1 x2 x3 c)) ∧ Below w.heap.size w w' := by
  have hh := fun w => has_any x0 x1 x2 x3 c w hw hc0 hc1
  rw [mark_or _ _ _ _ _ hc0 hc1]
  generalize has x0 x1 x2 x3 c = h at *
  have HH := Lib.hid hh
  clear hh
  cases h with
  | false =>
    go_enter Try.func35, Try.ntmps35
    go_wp2_with (go_at_call 39; refine (HH.out _).mono ?_; rintro e w1 ⟨rfl, hb1⟩)
    all_goals go_ret
    all_goals exact ⟨ret_bool (by simp), bl (by go_grown) hb1⟩
  | true =>
    go_enter Try.func35, Try.ntmps35
    go_wp2_with (go_at_call 39; refine (HH.out _).mono ?_; rintro e w1 ⟨rfl, hb1⟩)
    all_goals go_ret
    all_goals refine ⟨ret_bool ?_, bl (by go_grown) hb1⟩
    all_goals first | rfl | (clear hb1; generalize bits BinOp.or IntKind.u8 c 32 = y at *; rw [Bool.eq_iff_iff]; simp; omega)
end Go.Proofs.Ytdgihlelopfdeaa
