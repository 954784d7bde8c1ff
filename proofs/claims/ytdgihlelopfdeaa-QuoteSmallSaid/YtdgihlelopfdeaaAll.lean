/-
  sets.Not, sets.All.
-/
import Derived.Test.YtdgihlelopfdeaaOr
import Derived.Test.YtdgihlelopfdeaaTellsB
namespace Go.Proofs.Ytdgihlelopfdeaa
open Go.RowKit Q

theorem not1_0 (w : World) : Calls Try.prog 51 #[.int .u64 0, .int .u64 0] w fun e w' => e = .returned (.int .u64 18446744073709551615) ∧ w = w' := by
  go_enter Try.func51, Try.ntmps51
  go_wp2_with fail
  go_ret
  exact ⟨by rfl, rfl⟩

set_option maxHeartbeats 4000000 in
theorem each_51 (w : World) :
    Calls Try.prog 40 #[.agg #[.int .u64 0, .int .u64 0, .int .u64 0, .int .u64 0], .agg #[.int .u64 0, .int .u64 0, .int .u64 0, .int .u64 0], .func (.func 51) #[] #[]] w fun e w' =>
      e = .returned (.agg #[.int .u64 18446744073709551615, .int .u64 18446744073709551615, .int .u64 18446744073709551615, .int .u64 18446744073709551615]) ∧ Below w.heap.size w w' := by
  have HF := Lib.hid not1_0
  go_enter Try.func40, Try.ntmps40
  go_wp2_with fail
  go_loopw [9] (fun i wr => ∃ k : Nat, k ≤ 4 ∧ i = .int .i64 k ∧ Blk wr w.heap.size 24 #[.int .u64 0, .int .u64 0, .int .u64 0, .int .u64 0] ∧ Blk wr (w.heap.size + 1) 24 #[.int .u64 0, .int .u64 0, .int .u64 0, .int .u64 0] ∧ Blk wr (w.heap.size + 1 + 1) 24 #[.int .u64 0, .int .u64 0, .int .u64 0, .int .u64 0] ∧ Blk wr (w.heap.size + 1 + 1 + 1) 24 (zipk (fun _ _ => 18446744073709551615) k 0 0 0 0 0 0 0 0) ∧ Below w.heap.size w wr) (fun i _ => 4 - (intOf i).toNat)
  case atStart =>
    refine ⟨0, by omega, rfl, (((Blk.new w 24 _).alloc _).alloc _).alloc _, ?_, ?_, ?_, by go_grown⟩
    · have := ((Blk.new (w.alloc (.cells #[.int .u64 0, .int .u64 0, .int .u64 0, .int .u64 0] 24)) 24 #[.int .u64 0, .int .u64 0, .int .u64 0, .int .u64 0]).alloc (.cells #[.int .u64 0, .int .u64 0, .int .u64 0, .int .u64 0] 24)).alloc (.cells #[.int .u64 0, .int .u64 0, .int .u64 0, .int .u64 0] 24)
      rw [World.size_alloc] at this
      exact this
    · have := (Blk.new ((w.alloc (.cells #[.int .u64 0, .int .u64 0, .int .u64 0, .int .u64 0] 24)).alloc (.cells #[.int .u64 0, .int .u64 0, .int .u64 0, .int .u64 0] 24)) 24 #[.int .u64 0, .int .u64 0, .int .u64 0, .int .u64 0]).alloc (.cells #[.int .u64 0, .int .u64 0, .int .u64 0, .int .u64 0] 24)
      rw [World.size_alloc, World.size_alloc] at this
      exact this
    · have := Blk.new (((w.alloc (.cells #[.int .u64 0, .int .u64 0, .int .u64 0, .int .u64 0] 24)).alloc (.cells #[.int .u64 0, .int .u64 0, .int .u64 0, .int .u64 0] 24)).alloc (.cells #[.int .u64 0, .int .u64 0, .int .u64 0, .int .u64 0] 24)) 24 #[.int .u64 0, .int .u64 0, .int .u64 0, .int .u64 0]
      rw [World.size_alloc, World.size_alloc, World.size_alloc] at this
      exact this
  case round =>
    obtain ⟨k, hk, rfl, h0, h1, h2, h3, hB⟩ := hrel
    have a0 := h0.cell 0
    have a1 := h0.cell 1
    have a2 := h0.cell 2
    have a3 := h0.cell 3
    have b0 := h1.cell 0
    have b1 := h1.cell 1
    have b2 := h1.cell 2
    have b3 := h1.cell 3
    have c0 := h3.cell 0
    have c1 := h3.cell 1
    have c2 := h3.cell 2
    have c3 := h3.cell 3
    have f0 := h3.frozen 0
    have f1 := h3.frozen 1
    have f2 := h3.frozen 2
    have f3 := h3.frozen 3
    have hkk : k = 0 ∨ k = 1 ∨ k = 2 ∨ k = 3 ∨ k = 4 := by omega
    rcases hkk with rfl | rfl | rfl | rfl | rfl
    · go_wp2_with fail
      go_region_with (go_at_call 51; (refine (HF.out _).mono ?_; rintro e w1 ⟨rfl, rfl⟩))
      all_goals
        go_wp2_with fail
        go_roundw
        case rel => exact ⟨1, by omega, by rfl, Blk.far h0.drew (by simp <;> omega) _, Blk.far h1.drew (by simp <;> omega) _, Blk.far h2.drew (by simp <;> omega) _, by have := (h3.set_ 0 (.int .u64 18446744073709551615)).drew; simpa [zipk] using this, (hB.drew).setCell (by show w.heap.size ≤ w.heap.size + 1 + 1 + 1; omega) _⟩
        case measure => simp [intOf]
    · go_wp2_with fail
      go_region_with (go_at_call 51; (refine (HF.out _).mono ?_; rintro e w1 ⟨rfl, rfl⟩))
      all_goals
        go_wp2_with fail
        go_roundw
        case rel => exact ⟨2, by omega, by rfl, Blk.far h0.drew (by simp <;> omega) _, Blk.far h1.drew (by simp <;> omega) _, Blk.far h2.drew (by simp <;> omega) _, by have := (h3.set_ 1 (.int .u64 18446744073709551615)).drew; simpa [zipk] using this, (hB.drew).setCell (by show w.heap.size ≤ w.heap.size + 1 + 1 + 1; omega) _⟩
        case measure => simp [intOf]
    · go_wp2_with fail
      go_region_with (go_at_call 51; (refine (HF.out _).mono ?_; rintro e w1 ⟨rfl, rfl⟩))
      all_goals
        go_wp2_with fail
        go_roundw
        case rel => exact ⟨3, by omega, by rfl, Blk.far h0.drew (by simp <;> omega) _, Blk.far h1.drew (by simp <;> omega) _, Blk.far h2.drew (by simp <;> omega) _, by have := (h3.set_ 2 (.int .u64 18446744073709551615)).drew; simpa [zipk] using this, (hB.drew).setCell (by show w.heap.size ≤ w.heap.size + 1 + 1 + 1; omega) _⟩
        case measure => simp [intOf]
    · go_wp2_with fail
      go_region_with (go_at_call 51; (refine (HF.out _).mono ?_; rintro e w1 ⟨rfl, rfl⟩))
      all_goals
        go_wp2_with fail
        go_roundw
        case rel => exact ⟨4, by omega, by rfl, Blk.far h0.drew (by simp <;> omega) _, Blk.far h1.drew (by simp <;> omega) _, Blk.far h2.drew (by simp <;> omega) _, by have := (h3.set_ 3 (.int .u64 18446744073709551615)).drew; simpa [zipk] using this, (hB.drew).setCell (by show w.heap.size ≤ w.heap.size + 1 + 1 + 1; omega) _⟩
        case measure => simp [intOf]
    · have p0 := h2.cell 0
      have p1 := h2.cell 1
      have p2 := h2.cell 2
      have p3 := h2.cell 3
      have u0 := h2.frozen 0
      have u1 := h2.frozen 1
      have u2 := h2.frozen 2
      have u3 := h2.frozen 3
      simp [zipk] at c0 c1 c2 c3
      go_wp2_with fail
      have hfin : ∀ a b c d : Value, Blk ((((wr.setCell ⟨w.heap.size + 1 + 1, 0, none⟩ a).setCell ⟨w.heap.size + 1 + 1, 1, none⟩ b).setCell ⟨w.heap.size + 1 + 1, 2, none⟩ c).setCell ⟨w.heap.size + 1 + 1, 3, none⟩ d) (w.heap.size + 1 + 1) 24 #[a, b, c, d] := fun a b c d => (((h2.set_ 0 a).set_ 1 b).set_ 2 c).set_ 3 d
      have e0 := (hfin (.int .u64 18446744073709551615) (.int .u64 18446744073709551615) (.int .u64 18446744073709551615) (.int .u64 18446744073709551615)).cell 0
      have e1 := (hfin (.int .u64 18446744073709551615) (.int .u64 18446744073709551615) (.int .u64 18446744073709551615) (.int .u64 18446744073709551615)).cell 1
      have e2 := (hfin (.int .u64 18446744073709551615) (.int .u64 18446744073709551615) (.int .u64 18446744073709551615) (.int .u64 18446744073709551615)).cell 2
      have e3 := (hfin (.int .u64 18446744073709551615) (.int .u64 18446744073709551615) (.int .u64 18446744073709551615) (.int .u64 18446744073709551615)).cell 3
      have hle : w.heap.size ≤ w.heap.size + 1 + 1 := by omega
      refine bodyPost_ret (v := .agg #[.int .u64 18446744073709551615, .int .u64 18446744073709551615, .int .u64 18446744073709551615, .int .u64 18446744073709551615]) ?_ rfl ⟨rfl, (((hB.setCell hle _).setCell hle _).setCell hle _).setCell hle _⟩
      simp [results, Try.results40, go_sem, e0, e1, e2, e3]

theorem not_new {w : World} {o : Obj} (w1 : World) (h : Below ((w.alloc o).alloc (.cells #[.int .u64 0, .int .u64 0, .int .u64 0, .int .u64 0] 24)).heap.size ((w.alloc o).alloc (.cells #[.int .u64 0, .int .u64 0, .int .u64 0, .int .u64 0] 24)) w1) :
    Blk w1 (w.heap.size + 1) 24 #[.int .u64 0, .int .u64 0, .int .u64 0, .int .u64 0] := by
  have k := Blk.new (w.alloc o) 24 #[.int .u64 0, .int .u64 0, .int .u64 0, .int .u64 0]
  have k2 := k.below h k.lt
  rw [World.size_alloc] at k2
  exact k2

set_option maxHeartbeats 1000000 in
/-- sets.Not of none. -/
theorem not_0 (w : World) :
    Calls Try.prog 42 #[.agg #[.int .u64 0, .int .u64 0, .int .u64 0, .int .u64 0]] w fun e w' =>
      e = .returned (.agg #[.int .u64 18446744073709551615, .int .u64 18446744073709551615, .int .u64 18446744073709551615, .int .u64 18446744073709551615]) ∧ Below w.heap.size w w' := by
  go_enter Try.func42, Try.ntmps42
  go_wp2_with (go_at_call 40; refine (each_51 _).mono ?_; rintro e w1 ⟨rfl, hb1⟩; have h2 := not_new w1 hb1; have u0 := h2.frozen 0; have u1 := h2.frozen 1; have u2 := h2.frozen 2; have u3 := h2.frozen 3; have p0 := h2.cell 0; have p1 := h2.cell 1; have p2 := h2.cell 2; have p3 := h2.cell 3)
  have hfin : ∀ a b c d : Value, Blk ((((w1.setCell ⟨w.heap.size + 1, 0, none⟩ a).setCell ⟨w.heap.size + 1, 1, none⟩ b).setCell ⟨w.heap.size + 1, 2, none⟩ c).setCell ⟨w.heap.size + 1, 3, none⟩ d) (w.heap.size + 1) 24 #[a, b, c, d] := fun a b c d => (((h2.set_ 0 a).set_ 1 b).set_ 2 c).set_ 3 d
  have e0 := (hfin (.int .u64 18446744073709551615) (.int .u64 18446744073709551615) (.int .u64 18446744073709551615) (.int .u64 18446744073709551615)).cell 0
  have e1 := (hfin (.int .u64 18446744073709551615) (.int .u64 18446744073709551615) (.int .u64 18446744073709551615) (.int .u64 18446744073709551615)).cell 1
  have e2 := (hfin (.int .u64 18446744073709551615) (.int .u64 18446744073709551615) (.int .u64 18446744073709551615) (.int .u64 18446744073709551615)).cell 2
  have e3 := (hfin (.int .u64 18446744073709551615) (.int .u64 18446744073709551615) (.int .u64 18446744073709551615) (.int .u64 18446744073709551615)).cell 3
  have hle : w.heap.size ≤ w.heap.size + 1 := by omega
  have hB : Below w.heap.size w w1 := bl (by go_grown) hb1
  refine bodyPost_ret (v := .agg #[.int .u64 18446744073709551615, .int .u64 18446744073709551615, .int .u64 18446744073709551615, .int .u64 18446744073709551615]) ?_ rfl ⟨rfl, (((hB.setCell hle _).setCell hle _).setCell hle _).setCell hle _⟩
  simp [results, Try.results42, go_sem, e0, e1, e2, e3]

theorem all_new {w : World} (w1 : World) (h : Below (w.alloc (.cells #[.int .u64 0, .int .u64 0, .int .u64 0, .int .u64 0] 24)).heap.size (w.alloc (.cells #[.int .u64 0, .int .u64 0, .int .u64 0, .int .u64 0] 24)) w1) :
    Blk w1 w.heap.size 24 #[.int .u64 0, .int .u64 0, .int .u64 0, .int .u64 0] := by
  have k := Blk.new w 24 #[.int .u64 0, .int .u64 0, .int .u64 0, .int .u64 0]
  exact k.below h k.lt

set_option maxHeartbeats 1000000 in
/-- sets.All. -/
theorem all_any (w : World) :
    Calls Try.prog 25 #[] w fun e w' =>
      e = .returned (.agg #[.int .u64 18446744073709551615, .int .u64 18446744073709551615, .int .u64 18446744073709551615, .int .u64 18446744073709551615]) ∧ Below w.heap.size w w' := by
  go_enter Try.func25, Try.ntmps25
  go_wp2_with (go_at_call 42; refine (not_0 _).mono ?_; rintro e w1 ⟨rfl, hb1⟩; have h2 := all_new w1 hb1; have u0 := h2.frozen 0; have u1 := h2.frozen 1; have u2 := h2.frozen 2; have u3 := h2.frozen 3; have p0 := h2.cell 0; have p1 := h2.cell 1; have p2 := h2.cell 2; have p3 := h2.cell 3)
  have hfin : ∀ a b c d : Value, Blk ((((w1.setCell ⟨w.heap.size, 0, none⟩ a).setCell ⟨w.heap.size, 1, none⟩ b).setCell ⟨w.heap.size, 2, none⟩ c).setCell ⟨w.heap.size, 3, none⟩ d) (w.heap.size) 24 #[a, b, c, d] := fun a b c d => (((h2.set_ 0 a).set_ 1 b).set_ 2 c).set_ 3 d
  have e0 := (hfin (.int .u64 18446744073709551615) (.int .u64 18446744073709551615) (.int .u64 18446744073709551615) (.int .u64 18446744073709551615)).cell 0
  have e1 := (hfin (.int .u64 18446744073709551615) (.int .u64 18446744073709551615) (.int .u64 18446744073709551615) (.int .u64 18446744073709551615)).cell 1
  have e2 := (hfin (.int .u64 18446744073709551615) (.int .u64 18446744073709551615) (.int .u64 18446744073709551615) (.int .u64 18446744073709551615)).cell 2
  have e3 := (hfin (.int .u64 18446744073709551615) (.int .u64 18446744073709551615) (.int .u64 18446744073709551615) (.int .u64 18446744073709551615)).cell 3
  have hle : w.heap.size ≤ w.heap.size := Nat.le_refl _
  have hB : Below w.heap.size w w1 := bl (by go_grown) hb1
  refine bodyPost_ret (v := .agg #[.int .u64 18446744073709551615, .int .u64 18446744073709551615, .int .u64 18446744073709551615, .int .u64 18446744073709551615]) ?_ rfl ⟨rfl, (((hB.setCell hle _).setCell hle _).setCell hle _).setCell hle _⟩
  simp [results, Try.results25, go_sem, e0, e1, e2, e3]

end Go.Proofs.Ytdgihlelopfdeaa
