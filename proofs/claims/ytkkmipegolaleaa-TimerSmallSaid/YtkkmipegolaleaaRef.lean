/-
  What the reference's Check, First, Go and Rounds return, for every list of numbers.
-/
import Derived.Test.YtkkmipegolaleaaLeaf
namespace Go.Proofs.Ytkkmipegolaleaa
open Go.RowKit T

set_option maxHeartbeats 400000 in
theorem rcheck_any (zs : List Int) (A : Option Addr) (c : Nat) (w : World) (hv : Sl w A zs) :
    Calls Try.prog 26 #[.slice A zs.length c] w fun e w' => e = .returned (.int .i64 (chk zs)) ∧ w = w' := by
  have hm := hv.1
  by_cases h12 : 12 < zs.length
  · have h12' : (12 : Int) < (zs.length : Int) := by omega
    have e : (5 : Int) = chk zs := by simp [chk, h12]
    have E := Lib.hid e
    clear e
    go_enter Try.func26, Try.ntmps26
    go_wp2
    go_ret
    exact ⟨ret_int E.out, rfl⟩
  · have h12' : (zs.length : Int) ≤ 12 := by omega
    go_enter Try.func26, Try.ntmps26
    go_wp2
    go_loop [3] (fun i => ∃ k : Nat, k ≤ zs.length ∧ i = .int .i64 k ∧ ∀ j, j < k → 1 ≤ zs.getD j 0 ∧ zs.getD j 0 ≤ 1000) (fun i => zs.length - (intOf i).toNat)
    case atStart => exact ⟨0, Nat.zero_le _, rfl, fun j hj => by omega⟩
    case round =>
      obtain ⟨k, hk, rfl, hall⟩ := hrel
      have Hall := Lib.hid hall
      clear hall
      by_cases hlt : k < zs.length
      · obtain ⟨ad, rfl, had, hce⟩ := hv.at_ hlt
        have hki : (k : Int) < (zs.length : Int) := by omega
        generalize hx : zs.getD k 0 = x at hce
        have Hx := Lib.hid hx
        clear hx hv
        by_cases hx1 : x < 1
        · have e : (340 : Int) = chk zs := chk_bad (by omega) hlt (by rw [Hx.out]; omega)
          have E := Lib.hid e
          clear e
          go_wp2
          go_ret
          exact ⟨ret_int E.out, rfl⟩
        · by_cases hx2 : 1000 < x
          · have e : (340 : Int) = chk zs := chk_bad (by omega) hlt (by rw [Hx.out]; omega)
            have E := Lib.hid e
            clear e
            go_wp2
            go_ret
            exact ⟨ret_int E.out, rfl⟩
          · go_wp2
            go_round
            case rel =>
              refine ⟨k + 1, by omega, by go_num, fun j hj => ?_⟩
              by_cases hjk : j = k
              · subst hjk; rw [Hx.out]; omega
              · exact Hall.out j (by omega)
            case measure => simp [intOf]; omega
      · have e : (0 : Int) = chk zs := chk_all (by omega) (fun j hj => Hall.out j (by omega))
        have E := Lib.hid e
        clear e hv
        go_wp2
        go_ret
        exact ⟨ret_int E.out, rfl⟩

theorem rcheck_ok {zs : List Int} (A : Option Addr) (c : Nat) (w : World) (hv : Sl w A zs) (h : chk zs = 0) :
    Calls Try.prog 26 #[.slice A zs.length c] w fun e w' => e = .returned (.int .i64 0) ∧ w = w' := by
  have := rcheck_any zs A c w hv
  rw [h] at this
  exact this

theorem ix_found {zs : List Int} {k : Nat} {n : Nat} (hk : k < zs.length) (hx : zs.getD k 0 = (n : Int)) (h1 : ∀ j, j < zs.length → (n : Int) ≤ zs.getD j 0) (h2 : ∀ j, j < k → ¬ zs.getD j 0 = (n : Int)) : (k : Int) = ix zs := by
  have hne : zs ≠ [] := by rintro rfl; simp at hk
  rw [ix_nonneg hne, am_unique hk (fun j hj => by rw [hx]; exact h1 j hj) (fun j hj => by rw [hx]; have := h1 j (by omega); have := h2 j hj; omega)]
theorem ix_none {zs : List Int} (hc : chk zs = 0) (h1 : ∀ j, j < zs.length → (1001 : Int) ≤ zs.getD j 0) : (-1 : Int) = ix zs := by
  have h0 : zs = [] := by
    cases zs with
    | nil => rfl
    | cons a l => have := h1 0 (by simp); have := (chk_ok hc).2 0 (by simp); omega
  simp [ix, h0]

set_option maxHeartbeats 400000 in
theorem rfirst_any (zs : List Int) (A : Option Addr) (c : Nat) (w : World) (hv : Sl w A zs) (hc : chk zs = 0) :
    Calls Try.prog 31 #[.slice A zs.length c] w fun e w' => e = .returned (.int .i64 (ix zs)) ∧ w = w' := by
  have hm := hv.1
  have HC := Lib.hid hc
  have hall0 : ∀ j, j < zs.length → 1 ≤ zs.getD j 0 := fun j hj => ((chk_ok hc).2 j hj).1
  have Hall0 := Lib.hid hall0
  clear hc hall0
  go_enter Try.func31, Try.ntmps31
  go_wp2
  go_loop [3] (fun i => ∃ n : Nat, 1 ≤ n ∧ n ≤ 1001 ∧ i = .int .i64 n ∧ ∀ j, j < zs.length → (n : Int) ≤ zs.getD j 0) (fun i => 1001 - (intOf i).toNat)
  case atStart => exact ⟨1, by omega, by omega, rfl, Hall0.out⟩
  case round =>
    obtain ⟨n, hn1, hn2, rfl, hall⟩ := hrel
    have Hall := Lib.hid hall
    clear hall
    by_cases hlt : n < 1001
    · go_wp2
      go_loop [4] (fun i => ∃ k : Nat, k ≤ zs.length ∧ i = .int .i64 k ∧ ∀ j, j < k → ¬ zs.getD j 0 = (n : Int)) (fun i => zs.length - (intOf i).toNat)
      case atStart => exact ⟨0, by omega, rfl, fun j hj => by omega⟩
      case round =>
        obtain ⟨k, hk, rfl, hne⟩ := hrel
        have Hne := Lib.hid hne
        clear hne
        by_cases hlk : k < zs.length
        · obtain ⟨ad, rfl, had, hce⟩ := hv.at_ hlk
          have hki : (k : Int) < (zs.length : Int) := by omega
          generalize hx : zs.getD k 0 = x at hce
          have Hx := Lib.hid hx
          clear hx hv
          by_cases hxn : x = (n : Int)
          · have hb : (x == (n : Int)) = true := by simp [hxn]
            have E := Lib.hid (ix_found hlk (Hx.out.trans hxn) Hall.out Hne.out)
            clear hxn
            go_wp2
            go_ret
            exact ⟨ret_int E.out, rfl⟩
          · have hb : (x == (n : Int)) = false := by simp [hxn]
            go_wp2
            go_round
            case rel =>
              refine ⟨k + 1, by omega, by go_num, fun j hj => ?_⟩
              by_cases hjk : j = k
              · subst hjk; rw [Hx.out]; exact hxn
              · exact Hne.out j (by omega)
            case measure => simp [intOf]; omega
        · go_wp2
          go_round
          case rel =>
            refine ⟨n + 1, by omega, by omega, by go_num, fun j hj => ?_⟩
            have := Hall.out j hj
            have := Hne.out j (by omega)
            omega
          case measure => simp [intOf]; omega
    · have e : (-1 : Int) = ix zs := ix_none HC.out (fun j hj => by have := Hall.out j hj; omega)
      have E := Lib.hid e
      clear e hv
      go_wp2
      go_ret
      exact ⟨ret_int E.out, rfl⟩

theorem ret3 {x y z x' y' z' : Value} (h : x = x') (h2 : y = y') (h3 : z = z') : Ending.returned (.tuple #[x, y, z]) = .returned (.tuple #[x', y', z']) := by rw [h, h2, h3]

set_option maxHeartbeats 400000 in
theorem rgo_bad (zs : List Int) (A : Option Addr) (c : Nat) (a n : Int) (w : World) (hv : Sl w A zs) (hc : chk zs ≠ 0) :
    Calls Try.prog 27 #[.slice A zs.length c, .int .i64 a, .int .i64 n] w fun e w' => e = .returned (.tuple #[.int .i64 0, .bool false, .int .i64 (chk zs)]) ∧ w = w' := by
  have hb : (chk zs != 0) = true := by simpa using hc
  go_enter Try.func27, Try.ntmps27
  go_wp2_with (go_at_call 26; refine (rcheck_any zs A c _ hv).mono ?_; rintro e w' ⟨rfl, rfl⟩)
  go_ret3
  exact ⟨rfl, rfl⟩

set_option maxHeartbeats 400000 in
theorem rgo_arg (zs : List Int) (A : Option Addr) (c : Nat) (a n : Int) (w : World) (hv : Sl w A zs) (hc : chk zs = 0) (h : n < 0 ∨ a < 0 ∨ 1000 ≤ a) :
    Calls Try.prog 27 #[.slice A zs.length c, .int .i64 a, .int .i64 n] w fun e w' => e = .returned (.tuple #[.int .i64 0, .bool false, .int .i64 2]) ∧ w = w' := by
  have HC := Lib.hid hc
  clear hc
  by_cases h1 : n < 0
  · go_enter Try.func27, Try.ntmps27
    go_wp2_with (go_at_call 26; refine (rcheck_ok A c _ hv HC.out).mono ?_; rintro e w' ⟨rfl, rfl⟩)
    go_ret3
    exact ⟨rfl, rfl⟩
  · by_cases h2 : a < 0
    · go_enter Try.func27, Try.ntmps27
      go_wp2_with (go_at_call 26; refine (rcheck_ok A c _ hv HC.out).mono ?_; rintro e w' ⟨rfl, rfl⟩)
      go_ret3
      exact ⟨rfl, rfl⟩
    · have h3 : 1000 ≤ a := by omega
      have h4 : 999 < a := by omega
      go_enter Try.func27, Try.ntmps27
      go_wp2_with (go_at_call 26; refine (rcheck_ok A c _ hv HC.out).mono ?_; rintro e w' ⟨rfl, rfl⟩)
      go_ret3
      exact ⟨rfl, rfl⟩

set_option maxHeartbeats 400000 in
theorem rgo_nil (A : Option Addr) (c : Nat) (a n : Int) (w : World) (hv : Sl w A []) (h0 : 0 ≤ n) (h1 : 0 ≤ a) (h2 : a < 1000) :
    Calls Try.prog 27 #[.slice A 0 c, .int .i64 a, .int .i64 n] w fun e w' => e = .returned (.tuple #[.int .i64 n, .bool false, .int .i64 0]) ∧ w = w' := by
  have h3 : a ≤ 999 := by omega
  go_enter Try.func27, Try.ntmps27
  go_wp2_with (first | (go_at_call 26; refine (rcheck_ok A c _ hv rfl).mono ?_; rintro e w' ⟨rfl, rfl⟩) | (go_at_call 31; refine (rfirst_any [] A c _ hv rfl).mono ?_; rintro e w' ⟨rfl, rfl⟩))
  go_ret3
  exact ⟨rfl, rfl⟩

set_option maxHeartbeats 800000 in
theorem rgo_some (zs : List Int) (A : Option Addr) (c : Nat) (a : Int) (n : Nat) (w : World) (hv : Sl w A zs) (hc : chk zs = 0) (i : Nat) (t : Int) (hx : ix zs = i) (hil : i < zs.length) (ht : zs.getD i 0 = t)
    (h1 : 0 ≤ a) (h2 : a < 1000) (h4 : t ≤ 1000) (hn : n ≤ 9223372036854775807) :
    Calls Try.prog 27 #[.slice A zs.length c, .int .i64 a, .int .i64 n] w fun e w' =>
      e = .returned (.tuple #[.int .i64 (if t ≤ a then 0 else min n (t - a)), .bool (if t ≤ a then false else decide (t - a ≤ n)), .int .i64 (if t ≤ a then 341 else 0)]) ∧ w = w' := by
  have h3 : a ≤ 999 := by omega
  have hf := rfirst_any zs A c w hv hc
  rw [hx] at hf
  have HF := Lib.hid hf
  have HC := Lib.hid hc
  have hii : (i : Int) < (zs.length : Int) := by omega
  obtain ⟨ad, rfl, had, hce⟩ := hv.at_ hil
  rw [ht] at hce
  have HV := Lib.hid hv
  clear hc hx ht hf hv
  by_cases hta : t ≤ a
  · go_enter Try.func27, Try.ntmps27
    go_wp2_with (first | (go_at_call 26; refine (rcheck_ok _ c _ HV.out HC.out).mono ?_; rintro e w' ⟨rfl, rfl⟩) | (go_at_call 31; refine HF.out.mono ?_; rintro e w' ⟨rfl, rfl⟩))
    go_ret3
    exact ⟨by simp [hta], rfl⟩
  · go_enter Try.func27, Try.ntmps27
    go_wp2_with (first | (go_at_call 26; refine (rcheck_ok _ c _ HV.out HC.out).mono ?_; rintro e w' ⟨rfl, rfl⟩) | (go_at_call 31; refine HF.out.mono ?_; rintro e w' ⟨rfl, rfl⟩))
    go_loop [11] (fun p => ∃ k : Nat, k ≤ n ∧ p = .int .i64 k ∧ a + k < t) (fun p => n - (intOf p).toNat)
    case atStart => exact ⟨0, by omega, rfl, by omega⟩
    case round =>
      obtain ⟨k, hk, rfl, hkt⟩ := hrel
      by_cases hlt : k < n
      · by_cases het : a + (k + 1) = t
        · have hb : (a + ((k : Int) + 1) == t) = true := beq_iff_eq.2 het
          have E := Lib.hid het
          clear het
          go_wp2
          go_ret3
          have := E.out
          refine ⟨ret3 ?_ ?_ ?_, rfl⟩
          · show Value.int .i64 ((k : Int) + 1) = _; congr 1; omega
          · show Value.bool true = _; congr 1; symm; rw [decide_eq_true_eq]; omega
          · rfl
        · have hb : (a + ((k : Int) + 1) == t) = false := beq_eq_false_iff_ne.2 het
          go_wp2
          go_round
          case rel => exact ⟨k + 1, by omega, by go_num, by omega⟩
          case measure => simp [intOf]; omega
      · go_wp2
        go_ret3
        refine ⟨ret3 ?_ ?_ ?_, rfl⟩
        · show Value.int .i64 (k : Int) = _; congr 1; omega
        · show Value.bool false = _; congr 1; symm; rw [decide_eq_false_iff_not]; omega
        · rfl

theorem rest_of (n t : Int) (h0 : 0 ≤ n) (hn : n ≤ 9223372036854775807) (h1 : 0 < t) : wrap64 (n - wrap64 (n / t * t)) = n % t := by
  have e : n / t * t = n - n % t := by have := Int.mul_ediv_add_emod n t; rw [Int.mul_comm]; omega
  have l0 := Int.emod_nonneg n (show t ≠ 0 by omega)
  have l1 : n % t ≤ n := by
    have h2 : 0 ≤ n / t * t := Int.mul_nonneg (Int.ediv_nonneg h0 (by omega)) (by omega)
    omega
  rw [e]
  generalize n % t = m at *
  unfold wrap64
  omega

set_option maxHeartbeats 400000 in
theorem rrounds_bad (zs : List Int) (A : Option Addr) (c : Nat) (n : Int) (w : World) (hv : Sl w A zs) (hc : chk zs ≠ 0) :
    Calls Try.prog 28 #[.slice A zs.length c, .int .i64 n] w fun e w' => e = .returned (.tuple #[.int .i64 0, .int .i64 0, .int .i64 (chk zs)]) ∧ Below w.heap.size w w' := by
  have hb : (chk zs != 0) = true := by simpa using hc
  go_enter Try.func28, Try.ntmps28
  go_wp2_with (go_at_call 26; refine (rcheck_any zs A c _ hv).mono ?_; rintro e w' ⟨rfl, rfl⟩)
  go_ret3
  exact ⟨rfl, Below.refl _ _⟩

set_option maxHeartbeats 400000 in
theorem rrounds_arg (zs : List Int) (A : Option Addr) (c : Nat) (n : Int) (w : World) (hv : Sl w A zs) (hc : chk zs = 0) (h : n < 0) :
    Calls Try.prog 28 #[.slice A zs.length c, .int .i64 n] w fun e w' => e = .returned (.tuple #[.int .i64 0, .int .i64 0, .int .i64 2]) ∧ Below w.heap.size w w' := by
  have HC := Lib.hid hc
  clear hc
  go_enter Try.func28, Try.ntmps28
  go_wp2_with (go_at_call 26; refine (rcheck_ok A c _ hv HC.out).mono ?_; rintro e w' ⟨rfl, rfl⟩)
  go_ret3
  exact ⟨rfl, Below.refl _ _⟩

set_option maxHeartbeats 400000 in
theorem rrounds_nil (A : Option Addr) (c : Nat) (n : Int) (w : World) (hv : Sl w A []) (h0 : 0 ≤ n) :
    Calls Try.prog 28 #[.slice A 0 c, .int .i64 n] w fun e w' => e = .returned (.tuple #[.int .i64 0, .int .i64 n, .int .i64 0]) ∧ Below w.heap.size w w' := by
  go_enter Try.func28, Try.ntmps28
  go_wp2_with (first | (go_at_call 26; refine (rcheck_ok A c _ hv rfl).mono ?_; rintro e w' ⟨rfl, rfl⟩) | (go_at_call 31; refine (rfirst_any [] A c _ hv rfl).mono ?_; rintro e w' ⟨rfl, rfl⟩))
  go_ret3
  exact ⟨rfl, Below.refl _ _⟩

set_option maxHeartbeats 400000 in
theorem rrounds_some (zs : List Int) (A : Option Addr) (c : Nat) (n : Int) (w : World) (hv : Sl w A zs) (hc : chk zs = 0) (i : Nat) (t : Int) (hx : ix zs = i) (hil : i < zs.length) (ht : zs.getD i 0 = t)
    (h0 : 0 ≤ n) (hn : n ≤ 9223372036854775807) (h1 : 1 ≤ t) (h4 : t ≤ 1000) :
    Calls Try.prog 28 #[.slice A zs.length c, .int .i64 n] w fun e w' => e = .returned (.tuple #[.int .i64 (n / t), .int .i64 (n % t), .int .i64 0]) ∧ Below w.heap.size w w' := by
  have hf := rfirst_any zs A c w hv hc
  rw [hx] at hf
  have HF := Lib.hid hf
  have HC := Lib.hid hc
  have hii : (i : Int) < (zs.length : Int) := by omega
  obtain ⟨ad, rfl, had, hce⟩ := hv.at_ hil
  rw [ht] at hce
  have HV := Lib.hid hv
  have ht0 : (t == 0) = false := beq_eq_false_iff_ne.2 (by omega)
  clear hc hx ht hf hv
  go_enter Try.func28, Try.ntmps28
  go_wp2_with (first | (go_at_call 26; refine (rcheck_ok _ c _ HV.out HC.out).mono ?_; rintro e w' ⟨rfl, rfl⟩) | (go_at_call 31; refine HF.out.mono ?_; rintro e w' ⟨rfl, rfl⟩))
  go_quiet (fail)
  go_wp2_with fail
  go_ret3
  refine ⟨ret3 rfl ?_ rfl, below_drewN (Below.refl _ _) _⟩
  show Value.int .i64 (wrap64 (n - wrap64 (n / t * t))) = _
  rw [rest_of n t h0 hn (by omega)]
end Go.Proofs.Ytkkmipegolaleaa
