/-
  tells, QuoteTells.
-/
import Derived.Test.YtdgihlelopfdeaaTellsA
import Derived.Test.YtdgihlelopfdeaaCanon2
namespace Go.Proofs.Ytdgihlelopfdeaa
open Go.RowKit Q

set_option maxRecDepth 100000 in
set_option maxHeartbeats 4000000 in
/-- tells. -/
theorem tells_any (x0 x1 x2 x3 c : Int) (xs : List Int) (w : World) (hw : Words x0 x1 x2 x3) (hb0 : By xs) (h0 : 0 ≤ c) (h1 : c ≤ 255) (h63 : xs.length ≤ 9223372036854775807) :
    Calls Try.prog 9 #[.string (strOfNums xs), .int .u8 c, .agg #[.int .u64 x0, .int .u64 x1, .int .u64 x2, .int .u64 x3]] w fun e w' => e = .returned (.bool true) ∧ Below w.heap.size w w' := by
  by_cases hl : xs.length ≤ 400
  · exact tells_short x0 x1 x2 x3 c xs w hw hb0 h0 h1 hl
  · have hsz := strOfNums_size xs
    have hlen : (400 : Int) < (xs.length : Int) := by omega
    clear hl
    go_enter Try.func9, Try.ntmps9
    go_wp2_with fail
    go_ret
    exact ⟨rfl, by go_grown⟩

set_option maxRecDepth 100000 in
set_option maxHeartbeats 1000000 in
/-- QuoteTells. -/
theorem quoteTells_any (x0 x1 x2 x3 c : Int) (xs : List Int) (w : World) (hw : Words x0 x1 x2 x3) (hb0 : By xs) (h0 : 0 ≤ c) (h1 : c ≤ 255) (h63 : xs.length ≤ 9223372036854775807) :
    Calls Try.prog 3 #[.string (strOfNums xs), .int .u8 c, .agg #[.int .u64 x0, .int .u64 x1, .int .u64 x2, .int .u64 x3]] w fun e w' => e = .returned (.bool true) ∧ Below w.heap.size w w' := by
  go_enter Try.func3, Try.ntmps3
  go_wp2_with (first | (go_at_call 9; refine (tells_any x0 x1 x2 x3 c xs _ hw hb0 h0 h1 h63).mono ?_; rintro e w1 ⟨rfl, hb1⟩) | (go_at_call 10; refine (awake_any _).mono ?_; rintro e w2 ⟨rfl, hb2⟩))
  go_ret
  exact ⟨rfl, bl (bl (by go_grown) hb1) hb2⟩
end Go.Proofs.Ytdgihlelopfdeaa
