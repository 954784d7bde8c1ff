/-
  What Tick and Enter of a Timer do.
-/
import Derived.Test.YtkkmipegolaleaaTm
namespace Go.Proofs.Ytkkmipegolaleaa
open Go.RowKit T

set_option maxHeartbeats 400000 in
theorem tick_fired (t : Nat) (i k a : Int) (w : World) (ht : Tm w t i k a true) :
    Calls Try.prog 15 #[.pointer (some ⟨t, 0, none⟩)] w fun e w' => e = .returned (.tuple #[.int .i64 0, .bool false, .int .i64 341]) ∧ w = w' := by
  have hlt := ht.lt
  have c0 := ht.cell 0
  have c1 := ht.cell 1
  have c2 := ht.cell 2
  have c3 := ht.cell 3
  have f2 := ht.frozen 2
  have f3 := ht.frozen 3
  go_enter Try.func15, Try.ntmps15
  go_wp2_with (go_at_call 34; refine (is_any t i k a _ _ ht).mono ?_; rintro e w' ⟨rfl, rfl⟩)
  go_ret3
  exact ⟨rfl, rfl⟩

set_option maxHeartbeats 800000 in
/-- A tick at which nothing fires: no timeout is there. -/
theorem tick_none (t : Nat) (i k a : Int) (w : World) (ht : Tm w t i k a false) (h0 : 0 ≤ a) (h1 : a ≤ 100000) (hi : i < 0) :
    Calls Try.prog 15 #[.pointer (some ⟨t, 0, none⟩)] w fun e w' => e = .returned (.tuple #[.int .i64 0, .bool false, .int .i64 0]) ∧ w.grownBy w' (some t) ∧ Tm w' t i k (a + 1) false := by
  have hlt := ht.lt
  have c0 := ht.cell 0
  have c1 := ht.cell 1
  have c2 := ht.cell 2
  have c3 := ht.cell 3
  have f2 := ht.frozen 2
  have f3 := ht.frozen 3
  have T1 : Tm (w.setCell ⟨t, 2, none⟩ (.int .i64 (a + 1))) t i k (a + 1) false := by have := Blk.set_ ht 2 (.int .i64 (a + 1)); simpa [Tm] using this
  have G1 := only_set w t 2 (.int .i64 (a + 1))
  have q0 : ∀ p : Bw (w.setCell ⟨t, 2, none⟩ (.int .i64 (a + 1))), p.val.cell? ⟨t, 0, none⟩ = some (.int .i64 i) := Bw.cell T1.lt (T1.cell 0)
  have q1 : ∀ p : Bw (w.setCell ⟨t, 2, none⟩ (.int .i64 (a + 1))), p.val.cell? ⟨t, 1, none⟩ = some (.int .i64 k) := Bw.cell T1.lt (T1.cell 1)
  have q2 : ∀ p : Bw (w.setCell ⟨t, 2, none⟩ (.int .i64 (a + 1))), p.val.cell? ⟨t, 2, none⟩ = some (.int .i64 (a + 1)) := Bw.cell T1.lt (T1.cell 2)
  go_enter Try.func15, Try.ntmps15
  go_wp2_with (go_at_call 34; refine (is_any t i k a _ _ ht).mono ?_; rintro e w' ⟨rfl, rfl⟩)
  refine wp_region_bw (by kernel_rfl) (by kernel_rfl) ?_
  repeat (go_big_quiet_step ((go_at_call 33; exact calls_bw (there_no _ _ _ hi))))
  refine wpQuiet_nil ?_
  rintro _ ⟨p, rfl⟩
  go_wp2_with fail
  go_ret3
  exact ⟨rfl, only_then G1 p.prop, T1.below p.prop T1.lt⟩

set_option maxHeartbeats 800000 in
/-- A tick at which nothing fires: it is too early. -/
theorem tick_early (t : Nat) (i k a : Int) (w : World) (ht : Tm w t i k a false) (h0 : 0 ≤ a) (h1 : a ≤ 100000) (hi : 0 ≤ i) (hk : a + 1 ≠ k) :
    Calls Try.prog 15 #[.pointer (some ⟨t, 0, none⟩)] w fun e w' => e = .returned (.tuple #[.int .i64 0, .bool false, .int .i64 0]) ∧ w.grownBy w' (some t) ∧ Tm w' t i k (a + 1) false := by
  have hlt := ht.lt
  have c0 := ht.cell 0
  have c1 := ht.cell 1
  have c2 := ht.cell 2
  have c3 := ht.cell 3
  have f2 := ht.frozen 2
  have f3 := ht.frozen 3
  have T1 : Tm (w.setCell ⟨t, 2, none⟩ (.int .i64 (a + 1))) t i k (a + 1) false := by have := Blk.set_ ht 2 (.int .i64 (a + 1)); simpa [Tm] using this
  have G1 := only_set w t 2 (.int .i64 (a + 1))
  have q0 : ∀ p : Bw (w.setCell ⟨t, 2, none⟩ (.int .i64 (a + 1))), p.val.cell? ⟨t, 0, none⟩ = some (.int .i64 i) := Bw.cell T1.lt (T1.cell 0)
  have q1 : ∀ p : Bw (w.setCell ⟨t, 2, none⟩ (.int .i64 (a + 1))), p.val.cell? ⟨t, 1, none⟩ = some (.int .i64 k) := Bw.cell T1.lt (T1.cell 1)
  have q2 : ∀ p : Bw (w.setCell ⟨t, 2, none⟩ (.int .i64 (a + 1))), p.val.cell? ⟨t, 2, none⟩ = some (.int .i64 (a + 1)) := Bw.cell T1.lt (T1.cell 2)
  have hb : (a + 1 == k) = false := beq_eq_false_iff_ne.2 hk
  clear hk
  go_enter Try.func15, Try.ntmps15
  go_wp2_with (go_at_call 34; refine (is_any t i k a _ _ ht).mono ?_; rintro e w' ⟨rfl, rfl⟩)
  refine wp_region_bw (by kernel_rfl) (by kernel_rfl) ?_
  repeat (go_big_quiet_step ((go_at_call 33; exact calls_bw (there_yes _ _ _ hi))))
  refine wpQuiet_nil ?_
  rintro _ ⟨p, rfl⟩
  go_wp2_with fail
  go_ret3
  exact ⟨rfl, only_then G1 p.prop, T1.below p.prop T1.lt⟩

set_option maxHeartbeats 800000 in
/-- The tick at which it fires. -/
theorem tick_fires (t : Nat) (i k a : Int) (w : World) (ht : Tm w t i k a false) (h0 : 0 ≤ a) (h1 : a ≤ 100000) (hi : 0 ≤ i) (hk : a + 1 = k) :
    Calls Try.prog 15 #[.pointer (some ⟨t, 0, none⟩)] w fun e w' => e = .returned (.tuple #[.int .i64 i, .bool true, .int .i64 0]) ∧ w.grownBy w' (some t) ∧ Tm w' t i k (a + 1) true := by
  have hlt := ht.lt
  have c0 := ht.cell 0
  have c1 := ht.cell 1
  have c2 := ht.cell 2
  have c3 := ht.cell 3
  have f2 := ht.frozen 2
  have f3 := ht.frozen 3
  have T1 : Tm (w.setCell ⟨t, 2, none⟩ (.int .i64 (a + 1))) t i k (a + 1) false := by have := Blk.set_ ht 2 (.int .i64 (a + 1)); simpa [Tm] using this
  have G1 := only_set w t 2 (.int .i64 (a + 1))
  have q0 : ∀ p : Bw (w.setCell ⟨t, 2, none⟩ (.int .i64 (a + 1))), p.val.cell? ⟨t, 0, none⟩ = some (.int .i64 i) := Bw.cell T1.lt (T1.cell 0)
  have q1 : ∀ p : Bw (w.setCell ⟨t, 2, none⟩ (.int .i64 (a + 1))), p.val.cell? ⟨t, 1, none⟩ = some (.int .i64 k) := Bw.cell T1.lt (T1.cell 1)
  have q2 : ∀ p : Bw (w.setCell ⟨t, 2, none⟩ (.int .i64 (a + 1))), p.val.cell? ⟨t, 2, none⟩ = some (.int .i64 (a + 1)) := Bw.cell T1.lt (T1.cell 2)
  have hb : (a + 1 == k) = true := beq_iff_eq.2 hk
  clear hk
  go_enter Try.func15, Try.ntmps15
  go_wp2_with (go_at_call 34; refine (is_any t i k a _ _ ht).mono ?_; rintro e w' ⟨rfl, rfl⟩)
  refine wp_region_bw (by kernel_rfl) (by kernel_rfl) ?_
  repeat (go_big_quiet_step ((go_at_call 33; exact calls_bw (there_yes _ _ _ hi))))
  refine wpQuiet_nil ?_
  rintro _ ⟨p, rfl⟩
  have T2 : Tm p.val t i k (a + 1) false := T1.below p.prop T1.lt
  have G2 := only_then G1 p.prop
  have d0 := T2.cell 0
  have d3 := T2.cell 3
  have g3 := T2.frozen 3
  go_wp2_with fail
  go_ret3
  exact ⟨rfl, only_setCell G2 (.inl rfl) _, by have := Blk.set_ T2 3 (.bool true); simpa [Tm] using this⟩

/-- Enter at right timeouts. -/
theorem enter_ok (zs : List Int) (A : Option Addr) (c : Nat) (t : Nat) (i k a : Int) (f : Bool) (w : World) (ht : Tm w t i k a f) (hv : Sl w A zs) (hc : chk zs = 0) :
    Calls Try.prog 21 #[.pointer (some ⟨t, 0, none⟩), .slice A zs.length c] w fun e w' => e = .returned (.int .i64 0) ∧ w.grownBy w' (some t) ∧ Tm w' t (ix zs) (tk zs) 0 false := by
  have HC := Lib.hid hc
  have hlt := ht.lt
  clear hc
  go_enter Try.func21, Try.ntmps21
  go_wp2_with (first | (go_at_call 34; refine (is_any t i k a _ _ ht).mono ?_; rintro e w' ⟨rfl, rfl⟩) | (go_at_call 29; refine (check_ok A c _ hv HC.out).mono ?_; rintro e w' ⟨rfl, rfl⟩) | (go_at_call 32; refine (of_any zs A c _ hv).mono ?_; rintro e w1 ⟨rfl, hb1⟩; have T1 : Tm w1 t i k a f := Blk.below ht hb1 hlt; have c0 := T1.cell 0; have c1 := T1.cell 1; have c2 := T1.cell 2; have c3 := T1.cell 3; have c4 := T1.cell 4; have g0 := T1.frozen 0; have g1 := T1.frozen 1; have g2 := T1.frozen 2; have g3 := T1.frozen 3; have g4 := T1.frozen 4))
  go_ret
  have G1 := only_of_below hb1 (some t)
  refine ⟨rfl, only_setCell (only_setCell (only_setCell (only_setCell (only_setCell G1 (.inl rfl) _) (.inl rfl) _) (.inl rfl) _) (.inl rfl) _) (.inl rfl) _, ?_⟩
  have := ((((Blk.set_ T1 0 (.int .i64 (ix zs))).set_ 1 (.int .i64 (tk zs))).set_ 2 (.int .i64 0)).set_ 3 (.bool false)).set_ 4 (.bool true)
  simpa [Tm] using this
end Go.Proofs.Ytkkmipegolaleaa
