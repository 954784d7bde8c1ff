/-
  What Go and Rounds of package timer return, for every list of numbers.
-/
import Derived.Test.YtkkmipegolaleaaFns
namespace Go.Proofs.Ytkkmipegolaleaa
open Go.RowKit T

set_option maxHeartbeats 400000 in
theorem go_bad (zs : List Int) (A : Option Addr) (c : Nat) (a n : Int) (w : World) (hv : Sl w A zs) (hc : chk zs ≠ 0) :
    Calls Try.prog 19 #[.slice A zs.length c, .int .i64 a, .int .i64 n] w fun e w' => e = .returned (.tuple #[.int .i64 0, .bool false, .int .i64 (chk zs)]) ∧ Below w.heap.size w w' := by
  have hb : (chk zs != 0) = true := by simpa using hc
  go_enter Try.func19, Try.ntmps19
  go_wp2_with (go_at_call 29; refine (check_any zs A c _ hv).mono ?_; rintro e w' ⟨rfl, rfl⟩)
  go_ret3
  exact ⟨rfl, by go_grown⟩

set_option maxHeartbeats 400000 in
theorem go_arg (zs : List Int) (A : Option Addr) (c : Nat) (a n : Int) (w : World) (hv : Sl w A zs) (hc : chk zs = 0) (i t : Int) (hx : ix zs = i) (ht : tk zs = t) (h : n < 0 ∨ a < 0 ∨ 1000 ≤ a) :
    Calls Try.prog 19 #[.slice A zs.length c, .int .i64 a, .int .i64 n] w fun e w' => e = .returned (.tuple #[.int .i64 0, .bool false, .int .i64 2]) ∧ Below w.heap.size w w' := by
  have HC := Lib.hid hc
  clear hc
  have hof := of_any zs A c w hv
  rw [hx, ht] at hof
  have HO := Lib.hid hof
  clear hof hx ht
  by_cases h1 : n < 0
  · go_enter Try.func19, Try.ntmps19
    go_wp2_with (first | (go_at_call 29; refine (check_ok A c _ hv HC.out).mono ?_; rintro e w' ⟨rfl, rfl⟩) | (go_at_call 32; refine HO.out.mono ?_; rintro e w1 ⟨rfl, hb1⟩; have hz1 := hb1.size))
    go_ret3
    exact ⟨rfl, by go_grown⟩
  · by_cases h2 : a < 0
    · go_enter Try.func19, Try.ntmps19
      go_wp2_with (first | (go_at_call 29; refine (check_ok A c _ hv HC.out).mono ?_; rintro e w' ⟨rfl, rfl⟩) | (go_at_call 32; refine HO.out.mono ?_; rintro e w1 ⟨rfl, hb1⟩; have hz1 := hb1.size))
      go_ret3
      exact ⟨rfl, by go_grown⟩
    · have h3 : 1000 ≤ a := by omega
      go_enter Try.func19, Try.ntmps19
      go_wp2_with (first | (go_at_call 29; refine (check_ok A c _ hv HC.out).mono ?_; rintro e w' ⟨rfl, rfl⟩) | (go_at_call 32; refine HO.out.mono ?_; rintro e w1 ⟨rfl, hb1⟩; have hz1 := hb1.size))
      go_ret3
      exact ⟨rfl, by go_grown⟩

set_option maxHeartbeats 400000 in
theorem go_nil (A : Option Addr) (c : Nat) (a n : Int) (w : World) (hv : Sl w A []) (h0 : 0 ≤ n) (h1 : 0 ≤ a) (h2 : a < 1000) :
    Calls Try.prog 19 #[.slice A 0 c, .int .i64 a, .int .i64 n] w fun e w' => e = .returned (.tuple #[.int .i64 n, .bool false, .int .i64 0]) ∧ Below w.heap.size w w' := by
  have hd : decide (0 ≤ (-1 : Int)) = false := by decide
  go_enter Try.func19, Try.ntmps19
  go_wp2_with (first | (go_at_call 29; refine (check_ok A c _ hv rfl).mono ?_; rintro e w' ⟨rfl, rfl⟩) | (go_at_call 32; refine (of_nil A c _).mono ?_; rintro e w1 ⟨rfl, hb1⟩; have hz1 := hb1.size) | (go_at_call 33; refine (there_any _ _ _).mono ?_; rintro e w2 ⟨rfl, hb2⟩; have hz2 := hb2.size; obtain ⟨hc2, hf2⟩ := bcell hb2))
  go_ret3
  exact ⟨rfl, bl (by go_grown) hb2⟩

set_option maxHeartbeats 400000 in
theorem go_over (zs : List Int) (A : Option Addr) (c : Nat) (a n : Int) (w : World) (hv : Sl w A zs) (hc : chk zs = 0) (i t : Int) (hx : ix zs = i) (ht : tk zs = t) (hi : 0 ≤ i)
    (h0 : 0 ≤ n) (h1 : 0 ≤ a) (h2 : a < 1000) (h3 : t ≤ a) :
    Calls Try.prog 19 #[.slice A zs.length c, .int .i64 a, .int .i64 n] w fun e w' => e = .returned (.tuple #[.int .i64 0, .bool false, .int .i64 341]) ∧ Below w.heap.size w w' := by
  have HC := Lib.hid hc
  clear hc
  have hof := of_any zs A c w hv
  rw [hx, ht] at hof
  have HO := Lib.hid hof
  clear hof hx ht
  have hd : decide (0 ≤ i) = true := by simpa using hi
  go_enter Try.func19, Try.ntmps19
  go_wp2_with (first | (go_at_call 29; refine (check_ok A c _ hv HC.out).mono ?_; rintro e w' ⟨rfl, rfl⟩) | (go_at_call 32; refine HO.out.mono ?_; rintro e w1 ⟨rfl, hb1⟩; have hz1 := hb1.size) | (go_at_call 33; refine (there_any _ _ _).mono ?_; rintro e w2 ⟨rfl, hb2⟩; have hz2 := hb2.size; obtain ⟨hc2, hf2⟩ := bcell hb2))
  go_ret3
  exact ⟨rfl, bl (by go_grown) hb2⟩

set_option maxHeartbeats 400000 in
theorem go_some (zs : List Int) (A : Option Addr) (c : Nat) (a n : Int) (w : World) (hv : Sl w A zs) (hc : chk zs = 0) (i t : Int) (hx : ix zs = i) (ht : tk zs = t) (hi : 0 ≤ i)
    (h0 : 0 ≤ n) (h1 : 0 ≤ a) (h2 : a < 1000) (h3 : a < t) (h4 : t ≤ 1000) :
    Calls Try.prog 19 #[.slice A zs.length c, .int .i64 a, .int .i64 n] w fun e w' => e = .returned (.tuple #[.int .i64 (min n (t - a)), .bool (decide (t - a ≤ n)), .int .i64 0]) ∧ Below w.heap.size w w' := by
  have HC := Lib.hid hc
  clear hc
  have hof := of_any zs A c w hv
  rw [hx, ht] at hof
  have HO := Lib.hid hof
  clear hof hx ht
  have hd : decide (0 ≤ i) = true := by simpa using hi
  go_enter Try.func19, Try.ntmps19
  go_wp2_with (first | (go_at_call 29; refine (check_ok A c _ hv HC.out).mono ?_; rintro e w' ⟨rfl, rfl⟩) | (go_at_call 32; refine HO.out.mono ?_; rintro e w1 ⟨rfl, hb1⟩; have hz1 := hb1.size) | (go_at_call 33; refine (there_any _ _ _).mono ?_; rintro e w2 ⟨rfl, hb2⟩; have hz2 := hb2.size; obtain ⟨hc2, hf2⟩ := bcell hb2))
  go_ret3
  exact ⟨rfl, bl (by go_grown) hb2⟩

set_option maxHeartbeats 400000 in
theorem rounds_bad (zs : List Int) (A : Option Addr) (c : Nat) (n : Int) (w : World) (hv : Sl w A zs) (hc : chk zs ≠ 0) :
    Calls Try.prog 20 #[.slice A zs.length c, .int .i64 n] w fun e w' => e = .returned (.tuple #[.int .i64 0, .int .i64 0, .int .i64 (chk zs)]) ∧ Below w.heap.size w w' := by
  have hb : (chk zs != 0) = true := by simpa using hc
  go_enter Try.func20, Try.ntmps20
  go_wp2_with (go_at_call 29; refine (check_any zs A c _ hv).mono ?_; rintro e w' ⟨rfl, rfl⟩)
  go_ret3
  exact ⟨rfl, by go_grown⟩

set_option maxHeartbeats 400000 in
theorem rounds_arg (zs : List Int) (A : Option Addr) (c : Nat) (n : Int) (w : World) (hv : Sl w A zs) (hc : chk zs = 0) (i t : Int) (hx : ix zs = i) (ht : tk zs = t) (h : n < 0) :
    Calls Try.prog 20 #[.slice A zs.length c, .int .i64 n] w fun e w' => e = .returned (.tuple #[.int .i64 0, .int .i64 0, .int .i64 2]) ∧ Below w.heap.size w w' := by
  have HC := Lib.hid hc
  clear hc
  have hof := of_any zs A c w hv
  rw [hx, ht] at hof
  have HO := Lib.hid hof
  clear hof hx ht
  go_enter Try.func20, Try.ntmps20
  go_wp2_with (first | (go_at_call 29; refine (check_ok A c _ hv HC.out).mono ?_; rintro e w' ⟨rfl, rfl⟩) | (go_at_call 32; refine HO.out.mono ?_; rintro e w1 ⟨rfl, hb1⟩; have hz1 := hb1.size))
  go_ret3
  exact ⟨rfl, by go_grown⟩

set_option maxHeartbeats 400000 in
theorem rounds_nil (A : Option Addr) (c : Nat) (n : Int) (w : World) (hv : Sl w A []) (h0 : 0 ≤ n) :
    Calls Try.prog 20 #[.slice A 0 c, .int .i64 n] w fun e w' => e = .returned (.tuple #[.int .i64 0, .int .i64 n, .int .i64 0]) ∧ Below w.heap.size w w' := by
  have hd : decide (0 ≤ (-1 : Int)) = false := by decide
  go_enter Try.func20, Try.ntmps20
  go_wp2_with (first | (go_at_call 29; refine (check_ok A c _ hv rfl).mono ?_; rintro e w' ⟨rfl, rfl⟩) | (go_at_call 32; refine (of_nil A c _).mono ?_; rintro e w1 ⟨rfl, hb1⟩; have hz1 := hb1.size) | (go_at_call 33; refine (there_any _ _ _).mono ?_; rintro e w2 ⟨rfl, hb2⟩; have hz2 := hb2.size; obtain ⟨hc2, hf2⟩ := bcell hb2))
  go_ret3
  exact ⟨rfl, bl (by go_grown) hb2⟩

set_option maxHeartbeats 400000 in
theorem rounds_some (zs : List Int) (A : Option Addr) (c : Nat) (n : Int) (w : World) (hv : Sl w A zs) (hc : chk zs = 0) (i t : Int) (hx : ix zs = i) (ht : tk zs = t) (hi : 0 ≤ i)
    (h0 : 0 ≤ n) (hn : n ≤ 9223372036854775807) (h1 : 1 ≤ t) (h4 : t ≤ 1000) :
    Calls Try.prog 20 #[.slice A zs.length c, .int .i64 n] w fun e w' => e = .returned (.tuple #[.int .i64 (n / t), .int .i64 (n % t), .int .i64 0]) ∧ Below w.heap.size w w' := by
  have HC := Lib.hid hc
  clear hc
  have hof := of_any zs A c w hv
  rw [hx, ht] at hof
  have HO := Lib.hid hof
  clear hof hx ht
  have hd : decide (0 ≤ i) = true := by simpa using hi
  have ht0 : (t == 0) = false := beq_eq_false_iff_ne.2 (by omega)
  go_enter Try.func20, Try.ntmps20
  go_wp2_with (first | (go_at_call 29; refine (check_ok A c _ hv HC.out).mono ?_; rintro e w' ⟨rfl, rfl⟩) | (go_at_call 32; refine HO.out.mono ?_; rintro e w1 ⟨rfl, hb1⟩; have hz1 := hb1.size) | (go_at_call 33; refine (there_any _ _ _).mono ?_; rintro e w2 ⟨rfl, hb2⟩; have hz2 := hb2.size; obtain ⟨hc2, hf2⟩ := bcell hb2))
  go_quiet (fail)
  go_wp2_with fail
  go_ret3
  exact ⟨rfl, below_drewN (bl (by go_grown) hb2) _⟩
end Go.Proofs.Ytkkmipegolaleaa
