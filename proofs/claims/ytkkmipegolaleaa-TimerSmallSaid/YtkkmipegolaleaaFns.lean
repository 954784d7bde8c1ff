/-
  What First, Only, Go, Rounds and New of package timer return, for every list of numbers.
-/
import Derived.Test.YtkkmipegolaleaaLeaf
import Derived.Lib.MinMax
namespace Go.Proofs.Ytkkmipegolaleaa
open Go.RowKit T

theorem there_any (x t : Int) (w : World) : Calls Try.prog 33 #[.agg #[.int .i64 x, .int .i64 t]] w fun e w' => e = .returned (.bool (decide (0 ≤ x))) ∧ Below w.heap.size w w' := by
  go_enter Try.func33, Try.ntmps33
  go_wp2
  go_ret
  exact ⟨rfl, by go_grown⟩

theorem check_ok {zs : List Int} (A : Option Addr) (c : Nat) (w : World) (hv : Sl w A zs) (h : chk zs = 0) :
    Calls Try.prog 29 #[.slice A zs.length c] w fun e w' => e = .returned (.int .i64 0) ∧ w = w' := by
  have := check_any zs A c w hv
  rw [h] at this
  exact this

theorem there_no (x t : Int) (w : World) (h : x < 0) : Calls Try.prog 33 #[.agg #[.int .i64 x, .int .i64 t]] w fun e w' => e = .returned (.bool false) ∧ Below w.heap.size w w' := by
  have := there_any x t w
  rw [show decide (0 ≤ x) = false by rw [decide_eq_false_iff_not]; omega] at this
  exact this
theorem there_yes (x t : Int) (w : World) (h : 0 ≤ x) : Calls Try.prog 33 #[.agg #[.int .i64 x, .int .i64 t]] w fun e w' => e = .returned (.bool true) ∧ Below w.heap.size w w' := by
  have := there_any x t w
  rw [show decide (0 ≤ x) = true by rw [decide_eq_true_eq]; omega] at this
  exact this

/-- timer.of, both ways. -/
theorem of_any (zs : List Int) (A : Option Addr) (c : Nat) (w : World) (hv : Sl w A zs) :
    Calls Try.prog 32 #[.slice A zs.length c] w fun e w' => e = .returned (.agg #[.int .i64 (ix zs), .int .i64 (tk zs)]) ∧ Below w.heap.size w w' := by
  by_cases h : zs = []
  · subst h
    exact of_nil A c w
  · have := of_some zs A c w hv (List.length_pos_iff.2 h)
    rw [ix_nonneg h, tk_of h]
    exact this

set_option maxHeartbeats 400000 in
theorem first_bad (zs : List Int) (A : Option Addr) (c : Nat) (w : World) (hv : Sl w A zs) (hc : chk zs ≠ 0) :
    Calls Try.prog 12 #[.slice A zs.length c] w fun e w' => e = .returned (.tuple #[.int .i64 0, .bool false, .int .i64 (chk zs)]) ∧ Below w.heap.size w w' := by
  have hb : (chk zs != 0) = true := by simpa using hc
  go_enter Try.func12, Try.ntmps12
  go_wp2_with (go_at_call 29; refine (check_any zs A c _ hv).mono ?_; rintro e w' ⟨rfl, rfl⟩)
  go_ret3
  exact ⟨rfl, by go_grown⟩

set_option maxHeartbeats 400000 in
theorem first_some (zs : List Int) (A : Option Addr) (c : Nat) (w : World) (hv : Sl w A zs) (hc : chk zs = 0) (i t : Int) (hx : ix zs = i) (ht : tk zs = t) (hi : 0 ≤ i) :
    Calls Try.prog 12 #[.slice A zs.length c] w fun e w' => e = .returned (.tuple #[.int .i64 i, .bool true, .int .i64 0]) ∧ Below w.heap.size w w' := by
  have HC := Lib.hid hc
  clear hc
  have hof := of_any zs A c w hv
  rw [hx, ht] at hof
  have HO := Lib.hid hof
  clear hof hx ht
  have hd : decide (0 ≤ i) = true := by simpa using hi
  have hm : max i 0 = i := by omega
  go_enter Try.func12, Try.ntmps12
  go_wp2_with (first | (go_at_call 29; refine (check_ok A c _ hv HC.out).mono ?_; rintro e w' ⟨rfl, rfl⟩) | (go_at_call 32; refine HO.out.mono ?_; rintro e w1 ⟨rfl, hb1⟩))
  have hz1 := hb1.size
  have q0 : ∀ p : Bw (w1.alloc (.cells #[.int .i64 i, .int .i64 t] 48)), p.val.cell? ⟨w1.heap.size, 0, none⟩ = some (.int .i64 i) := Bw.cell (by simp) (by simp [go_sem])
  have q1 : ∀ p : Bw (w1.alloc (.cells #[.int .i64 i, .int .i64 t] 48)), p.val.cell? ⟨w1.heap.size, 1, none⟩ = some (.int .i64 t) := Bw.cell (by simp) (by simp [go_sem])
  refine wp_region_bw (by kernel_rfl) (by kernel_rfl) ?_
  repeat (go_big_quiet_step ((go_at_call 33; exact calls_bw (there_yes _ _ _ hi))))
  refine wpQuiet_nil ?_
  rintro _ ⟨p, rfl⟩
  go_wp2_with fail
  go_ret3
  exact ⟨rfl, bl (by go_grown) p.prop⟩

set_option maxHeartbeats 400000 in
/-- At no timeout. -/
theorem first_nil (A : Option Addr) (c : Nat) (w : World) (hv : Sl w A []) :
    Calls Try.prog 12 #[.slice A 0 c] w fun e w' => e = .returned (.tuple #[.int .i64 0, .bool false, .int .i64 0]) ∧ Below w.heap.size w w' := by
  have hm : max (-1 : Int) 0 = 0 := by omega
  have hd : decide (0 ≤ (-1 : Int)) = false := by decide
  go_enter Try.func12, Try.ntmps12
  go_wp2_with (first | (go_at_call 29; refine (check_ok A c _ hv rfl).mono ?_; rintro e w' ⟨rfl, rfl⟩) | (go_at_call 32; refine (of_nil A c _).mono ?_; rintro e w1 ⟨rfl, hb1⟩; have hz1 := hb1.size))
  have hz1 := hb1.size
  have q0 : ∀ p : Bw (w1.alloc (.cells #[.int .i64 (-1), .int .i64 0] 48)), p.val.cell? ⟨w1.heap.size, 0, none⟩ = some (.int .i64 (-1)) := Bw.cell (by simp) (by simp [go_sem])
  have q1 : ∀ p : Bw (w1.alloc (.cells #[.int .i64 (-1), .int .i64 0] 48)), p.val.cell? ⟨w1.heap.size, 1, none⟩ = some (.int .i64 0) := Bw.cell (by simp) (by simp [go_sem])
  refine wp_region_bw (by kernel_rfl) (by kernel_rfl) ?_
  repeat (go_big_quiet_step ((go_at_call 33; exact calls_bw (there_no _ _ _ (by omega)))))
  refine wpQuiet_nil ?_
  rintro _ ⟨p, rfl⟩
  go_wp2_with fail
  go_ret3
  exact ⟨rfl, bl (by go_grown) p.prop⟩

set_option maxHeartbeats 400000 in
theorem only_bad (zs : List Int) (A : Option Addr) (c : Nat) (w : World) (hv : Sl w A zs) (hc : chk zs ≠ 0) :
    Calls Try.prog 13 #[.slice A zs.length c] w fun e w' => e = .returned (.tuple #[.slice none 0 0, .int .i64 (chk zs)]) ∧ Below w.heap.size w w' := by
  have hb : (chk zs != 0) = true := by simpa using hc
  go_enter Try.func13, Try.ntmps13
  go_wp2_with (go_at_call 29; refine (check_any zs A c _ hv).mono ?_; rintro e w' ⟨rfl, rfl⟩)
  go_ret2
  exact ⟨rfl, by go_grown⟩

set_option maxHeartbeats 400000 in
theorem only_some (zs : List Int) (A : Option Addr) (c : Nat) (w : World) (hv : Sl w A zs) (hc : chk zs = 0) (i t : Int) (hx : ix zs = i) (ht : tk zs = t) (hi : 0 ≤ i) :
    Calls Try.prog 13 #[.slice A zs.length c] w fun e w' => ∃ b, e = .returned (.tuple #[.slice (some ⟨b, 0, none⟩) 1 1, .int .i64 0]) ∧ w.heap.size ≤ b ∧ Blk w' b 3 #[.int .i64 t] ∧ Below w.heap.size w w' := by
  have HC := Lib.hid hc
  clear hc
  have hof := of_any zs A c w hv
  rw [hx, ht] at hof
  have HO := Lib.hid hof
  clear hof hx ht
  have hd : decide (0 ≤ i) = true := by simpa using hi
  go_enter Try.func13, Try.ntmps13
  go_wp2_with (first | (go_at_call 29; refine (check_ok A c _ hv HC.out).mono ?_; rintro e w' ⟨rfl, rfl⟩) | (go_at_call 32; refine HO.out.mono ?_; rintro e w1 ⟨rfl, hb1⟩) | (go_at_call 33; refine (there_any _ _ _).mono ?_; rintro e w2 ⟨rfl, hb2⟩; obtain ⟨hc2, hf2⟩ := bcell hb2))
  have hz1 := hb1.size
  have hz2 := hb2.size
  go_ret2
  have hle : w.heap.size ≤ w2.heap.size := by simp at hz2; omega
  exact ⟨_, rfl, hle, Blk.new _ _ _, (bl (by go_grown) hb2).alloc hle _⟩

theorem only_nil (A : Option Addr) (c : Nat) (w : World) (hv : Sl w A []) :
    Calls Try.prog 13 #[.slice A 0 c] w fun e w' => e = .returned (.tuple #[.slice none 0 0, .int .i64 0]) ∧ Below w.heap.size w w' := by
  have hd : decide (0 ≤ (-1 : Int)) = false := by decide
  go_enter Try.func13, Try.ntmps13
  go_wp2_with (first | (go_at_call 29; refine (check_ok A c _ hv rfl).mono ?_; rintro e w' ⟨rfl, rfl⟩) | (go_at_call 32; refine (of_nil A c _).mono ?_; rintro e w1 ⟨rfl, hb1⟩; have hz1 := hb1.size) | (go_at_call 33; refine (there_any _ _ _).mono ?_; rintro e w2 ⟨rfl, hb2⟩; obtain ⟨hc2, hf2⟩ := bcell hb2))
  go_ret2
  exact ⟨rfl, bl (by go_grown) hb2⟩
end Go.Proofs.Ytkkmipegolaleaa
