/-
  sets.each, sets.Or.
-/
import Derived.Test.YtdgihlelopfdeaaSet
namespace Go.Proofs.Ytdgihlelopfdeaa
open Go.RowKit Q

set_option maxHeartbeats 400000 in
theorem or1_any (x y : Int) (w : World) : Calls Try.prog 41 #[.int .u64 x, .int .u64 y] w fun e w' => e = .returned (.int .u64 (bits .or .u64 x y)) ∧ w = w' := by
  go_enter Try.func41, Try.ntmps41
  go_wp2_with fail
  go_ret
  exact ⟨rfl, rfl⟩

/-- What each makes of the first k words. -/
def zipk (g : Int → Int → Int) (k : Nat) (x0 x1 x2 x3 y0 y1 y2 y3 : Int) : Array Value :=
  #[.int .u64 (if 0 < k then g x0 y0 else 0), .int .u64 (if 1 < k then g x1 y1 else 0), .int .u64 (if 2 < k then g x2 y2 else 0), .int .u64 (if 3 < k then g x3 y3 else 0)]

set_option maxHeartbeats 4000000 in
theorem each_41 (g : Int → Int → Int) (hf : ∀ (x y : Int) (w : World), Calls Try.prog 41 #[.int .u64 x, .int .u64 y] w fun e w' => e = .returned (.int .u64 (g x y)) ∧ w = w')
    (x0 x1 x2 x3 y0 y1 y2 y3 : Int) (w : World) :
    Calls Try.prog 40 #[.agg #[.int .u64 x0, .int .u64 x1, .int .u64 x2, .int .u64 x3], .agg #[.int .u64 y0, .int .u64 y1, .int .u64 y2, .int .u64 y3], .func (.func 41) #[] #[]] w fun e w' =>
      e = .returned (.agg #[.int .u64 (g x0 y0), .int .u64 (g x1 y1), .int .u64 (g x2 y2), .int .u64 (g x3 y3)]) ∧ Below w.heap.size w w' := by
  have HF := Lib.hid hf
  clear hf
  go_enter Try.func40, Try.ntmps40
  go_wp2_with fail
  go_loopw [9] (fun i wr => ∃ k : Nat, k ≤ 4 ∧ i = .int .i64 k ∧ Blk wr w.heap.size 24 #[.int .u64 x0, .int .u64 x1, .int .u64 x2, .int .u64 x3] ∧ Blk wr (w.heap.size + 1) 24 #[.int .u64 y0, .int .u64 y1, .int .u64 y2, .int .u64 y3] ∧ Blk wr (w.heap.size + 1 + 1) 24 #[.int .u64 0, .int .u64 0, .int .u64 0, .int .u64 0] ∧ Blk wr (w.heap.size + 1 + 1 + 1) 24 (zipk g k x0 x1 x2 x3 y0 y1 y2 y3) ∧ Below w.heap.size w wr) (fun i _ => 4 - (intOf i).toNat)
  case atStart =>
    refine ⟨0, by omega, rfl, (((Blk.new w 24 _).alloc _).alloc _).alloc _, ?_, ?_, ?_, by go_grown⟩
    · have := ((Blk.new (w.alloc (.cells #[.int .u64 x0, .int .u64 x1, .int .u64 x2, .int .u64 x3] 24)) 24 #[.int .u64 y0, .int .u64 y1, .int .u64 y2, .int .u64 y3]).alloc (.cells #[.int .u64 0, .int .u64 0, .int .u64 0, .int .u64 0] 24)).alloc (.cells #[.int .u64 0, .int .u64 0, .int .u64 0, .int .u64 0] 24)
      rw [World.size_alloc] at this
      exact this
    · have := (Blk.new ((w.alloc (.cells #[.int .u64 x0, .int .u64 x1, .int .u64 x2, .int .u64 x3] 24)).alloc (.cells #[.int .u64 y0, .int .u64 y1, .int .u64 y2, .int .u64 y3] 24)) 24 #[.int .u64 0, .int .u64 0, .int .u64 0, .int .u64 0]).alloc (.cells #[.int .u64 0, .int .u64 0, .int .u64 0, .int .u64 0] 24)
      rw [World.size_alloc, World.size_alloc] at this
      exact this
    · have := Blk.new (((w.alloc (.cells #[.int .u64 x0, .int .u64 x1, .int .u64 x2, .int .u64 x3] 24)).alloc (.cells #[.int .u64 y0, .int .u64 y1, .int .u64 y2, .int .u64 y3] 24)).alloc (.cells #[.int .u64 0, .int .u64 0, .int .u64 0, .int .u64 0] 24)) 24 #[.int .u64 0, .int .u64 0, .int .u64 0, .int .u64 0]
      rw [World.size_alloc, World.size_alloc, World.size_alloc] at this
      exact this
  case round =>
    obtain ⟨k, hk, rfl, h0, h1, h2, h3, hB⟩ := hrel
    have a0 := h0.cell 0
    have a1 := h0.cell 1
    have a2 := h0.cell 2
    have a3 := h0.cell 3
    have b0 := h1.cell 0
    have b1 := h1.cell 1
    have b2 := h1.cell 2
    have b3 := h1.cell 3
    have c0 := h3.cell 0
    have c1 := h3.cell 1
    have c2 := h3.cell 2
    have c3 := h3.cell 3
    have f0 := h3.frozen 0
    have f1 := h3.frozen 1
    have f2 := h3.frozen 2
    have f3 := h3.frozen 3
    have hkk : k = 0 ∨ k = 1 ∨ k = 2 ∨ k = 3 ∨ k = 4 := by omega
    rcases hkk with rfl | rfl | rfl | rfl | rfl
    · go_wp2_with fail
      go_region_with (go_at_call 41; (refine (HF.out _ _ _).mono ?_; rintro e w1 ⟨rfl, rfl⟩))
      all_goals
        go_wp2_with fail
        go_roundw
        case rel => exact ⟨1, by omega, by rfl, Blk.far h0.drew (by simp <;> omega) _, Blk.far h1.drew (by simp <;> omega) _, Blk.far h2.drew (by simp <;> omega) _, by have := (h3.set_ 0 (.int .u64 (g x0 y0))).drew; simpa [zipk] using this, (hB.drew).setCell (by show w.heap.size ≤ w.heap.size + 1 + 1 + 1; omega) _⟩
        case measure => simp [intOf]
    · go_wp2_with fail
      go_region_with (go_at_call 41; (refine (HF.out _ _ _).mono ?_; rintro e w1 ⟨rfl, rfl⟩))
      all_goals
        go_wp2_with fail
        go_roundw
        case rel => exact ⟨2, by omega, by rfl, Blk.far h0.drew (by simp <;> omega) _, Blk.far h1.drew (by simp <;> omega) _, Blk.far h2.drew (by simp <;> omega) _, by have := (h3.set_ 1 (.int .u64 (g x1 y1))).drew; simpa [zipk] using this, (hB.drew).setCell (by show w.heap.size ≤ w.heap.size + 1 + 1 + 1; omega) _⟩
        case measure => simp [intOf]
    · go_wp2_with fail
      go_region_with (go_at_call 41; (refine (HF.out _ _ _).mono ?_; rintro e w1 ⟨rfl, rfl⟩))
      all_goals
        go_wp2_with fail
        go_roundw
        case rel => exact ⟨3, by omega, by rfl, Blk.far h0.drew (by simp <;> omega) _, Blk.far h1.drew (by simp <;> omega) _, Blk.far h2.drew (by simp <;> omega) _, by have := (h3.set_ 2 (.int .u64 (g x2 y2))).drew; simpa [zipk] using this, (hB.drew).setCell (by show w.heap.size ≤ w.heap.size + 1 + 1 + 1; omega) _⟩
        case measure => simp [intOf]
    · go_wp2_with fail
      go_region_with (go_at_call 41; (refine (HF.out _ _ _).mono ?_; rintro e w1 ⟨rfl, rfl⟩))
      all_goals
        go_wp2_with fail
        go_roundw
        case rel => exact ⟨4, by omega, by rfl, Blk.far h0.drew (by simp <;> omega) _, Blk.far h1.drew (by simp <;> omega) _, Blk.far h2.drew (by simp <;> omega) _, by have := (h3.set_ 3 (.int .u64 (g x3 y3))).drew; simpa [zipk] using this, (hB.drew).setCell (by show w.heap.size ≤ w.heap.size + 1 + 1 + 1; omega) _⟩
        case measure => simp [intOf]
    · have p0 := h2.cell 0
      have p1 := h2.cell 1
      have p2 := h2.cell 2
      have p3 := h2.cell 3
      have u0 := h2.frozen 0
      have u1 := h2.frozen 1
      have u2 := h2.frozen 2
      have u3 := h2.frozen 3
      simp [zipk] at c0 c1 c2 c3
      go_wp2_with fail
      have hfin : ∀ a b c d : Value, Blk ((((wr.setCell ⟨w.heap.size + 1 + 1, 0, none⟩ a).setCell ⟨w.heap.size + 1 + 1, 1, none⟩ b).setCell ⟨w.heap.size + 1 + 1, 2, none⟩ c).setCell ⟨w.heap.size + 1 + 1, 3, none⟩ d) (w.heap.size + 1 + 1) 24 #[a, b, c, d] := fun a b c d => (((h2.set_ 0 a).set_ 1 b).set_ 2 c).set_ 3 d
      have e0 := (hfin (.int .u64 (g x0 y0)) (.int .u64 (g x1 y1)) (.int .u64 (g x2 y2)) (.int .u64 (g x3 y3))).cell 0
      have e1 := (hfin (.int .u64 (g x0 y0)) (.int .u64 (g x1 y1)) (.int .u64 (g x2 y2)) (.int .u64 (g x3 y3))).cell 1
      have e2 := (hfin (.int .u64 (g x0 y0)) (.int .u64 (g x1 y1)) (.int .u64 (g x2 y2)) (.int .u64 (g x3 y3))).cell 2
      have e3 := (hfin (.int .u64 (g x0 y0)) (.int .u64 (g x1 y1)) (.int .u64 (g x2 y2)) (.int .u64 (g x3 y3))).cell 3
      have hle : w.heap.size ≤ w.heap.size + 1 + 1 := by omega
      refine bodyPost_ret (v := .agg #[.int .u64 (g x0 y0), .int .u64 (g x1 y1), .int .u64 (g x2 y2), .int .u64 (g x3 y3)]) ?_ rfl ⟨rfl, (((hB.setCell hle _).setCell hle _).setCell hle _).setCell hle _⟩
      simp [results, Try.results40, go_sem, e0, e1, e2, e3]

theorem or_new {w : World} {o p : Obj} (w1 : World) (h : Below (((w.alloc o).alloc p).alloc (.cells #[.int .u64 0, .int .u64 0, .int .u64 0, .int .u64 0] 24)).heap.size (((w.alloc o).alloc p).alloc (.cells #[.int .u64 0, .int .u64 0, .int .u64 0, .int .u64 0] 24)) w1) :
    Blk w1 (w.heap.size + 1 + 1) 24 #[.int .u64 0, .int .u64 0, .int .u64 0, .int .u64 0] := by
  have k := Blk.new ((w.alloc o).alloc p) 24 #[.int .u64 0, .int .u64 0, .int .u64 0, .int .u64 0]
  have k2 := k.below h k.lt
  rw [World.size_alloc, World.size_alloc] at k2
  exact k2

set_option maxHeartbeats 1000000 in
/-- sets.Or. -/
theorem or_any (x0 x1 x2 x3 y0 y1 y2 y3 : Int) (w : World) :
    Calls Try.prog 23 #[.agg #[.int .u64 x0, .int .u64 x1, .int .u64 x2, .int .u64 x3], .agg #[.int .u64 y0, .int .u64 y1, .int .u64 y2, .int .u64 y3]] w fun e w' =>
      e = .returned (.agg #[.int .u64 (bits .or .u64 x0 y0), .int .u64 (bits .or .u64 x1 y1), .int .u64 (bits .or .u64 x2 y2), .int .u64 (bits .or .u64 x3 y3)]) ∧ Below w.heap.size w w' := by
  go_enter Try.func23, Try.ntmps23
  go_wp2_with (go_at_call 40; refine (each_41 (fun x y => bits .or .u64 x y) or1_any x0 x1 x2 x3 y0 y1 y2 y3 _).mono ?_; rintro e w1 ⟨rfl, hb1⟩; have h2 := or_new w1 hb1; have u0 := h2.frozen 0; have u1 := h2.frozen 1; have u2 := h2.frozen 2; have u3 := h2.frozen 3; have p0 := h2.cell 0; have p1 := h2.cell 1; have p2 := h2.cell 2; have p3 := h2.cell 3)
  have hfin : ∀ a b c d : Value, Blk ((((w1.setCell ⟨w.heap.size + 1 + 1, 0, none⟩ a).setCell ⟨w.heap.size + 1 + 1, 1, none⟩ b).setCell ⟨w.heap.size + 1 + 1, 2, none⟩ c).setCell ⟨w.heap.size + 1 + 1, 3, none⟩ d) (w.heap.size + 1 + 1) 24 #[a, b, c, d] := fun a b c d => (((h2.set_ 0 a).set_ 1 b).set_ 2 c).set_ 3 d
  have e0 := (hfin (.int .u64 (bits .or .u64 x0 y0)) (.int .u64 (bits .or .u64 x1 y1)) (.int .u64 (bits .or .u64 x2 y2)) (.int .u64 (bits .or .u64 x3 y3))).cell 0
  have e1 := (hfin (.int .u64 (bits .or .u64 x0 y0)) (.int .u64 (bits .or .u64 x1 y1)) (.int .u64 (bits .or .u64 x2 y2)) (.int .u64 (bits .or .u64 x3 y3))).cell 1
  have e2 := (hfin (.int .u64 (bits .or .u64 x0 y0)) (.int .u64 (bits .or .u64 x1 y1)) (.int .u64 (bits .or .u64 x2 y2)) (.int .u64 (bits .or .u64 x3 y3))).cell 2
  have e3 := (hfin (.int .u64 (bits .or .u64 x0 y0)) (.int .u64 (bits .or .u64 x1 y1)) (.int .u64 (bits .or .u64 x2 y2)) (.int .u64 (bits .or .u64 x3 y3))).cell 3
  have hle : w.heap.size ≤ w.heap.size + 1 + 1 := by omega
  have hB : Below w.heap.size w w1 := bl (by go_grown) hb1
  refine bodyPost_ret (v := .agg #[.int .u64 (bits .or .u64 x0 y0), .int .u64 (bits .or .u64 x1 y1), .int .u64 (bits .or .u64 x2 y2), .int .u64 (bits .or .u64 x3 y3)]) ?_ rfl ⟨rfl, (((hB.setCell hle _).setCell hle _).setCell hle _).setCell hle _⟩
  simp [results, Try.results23, go_sem, e0, e1, e2, e3]

theorem or64 {x y : Int} (hx : 0 ≤ x ∧ x ≤ 18446744073709551615) (hy : 0 ≤ y ∧ y ≤ 18446744073709551615) : 0 ≤ bits .or .u64 x y ∧ bits .or .u64 x y ≤ 18446744073709551615 := by
  rw [Go.u64_or x y hx.1 (by omega) hy.1 (by omega)]
  have := Nat.or_lt_two_pow (x := x.toNat) (y := y.toNat) (n := 64) (by omega) (by omega)
  omega
theorem words_or {x0 x1 x2 x3 y0 y1 y2 y3 : Int} (hx : Words x0 x1 x2 x3) (hy : Words y0 y1 y2 y3) : Words (bits .or .u64 x0 y0) (bits .or .u64 x1 y1) (bits .or .u64 x2 y2) (bits .or .u64 x3 y3) :=
  ⟨or64 hx.1 hy.1, or64 hx.2.1 hy.2.1, or64 hx.2.2.1 hy.2.2.1, or64 hx.2.2.2 hy.2.2.2⟩
end Go.Proofs.Ytdgihlelopfdeaa
