/-
  The reference of sets: Words.
-/
import Derived.Test.YtdgihlelopfdeaaRefC
namespace Go.Proofs.Ytdgihlelopfdeaa
open Go.RowKit Q

def word (x0 x1 x2 x3 c : Int) : Int := if c < 64 then x0 else if c < 128 then x1 else if c < 192 then x2 else x3
theorem word_cell (x0 x1 x2 x3 : Int) (k : Nat) (hk : k < 256) : (#[Value.int .u64 x0, .int .u64 x1, .int .u64 x2, .int .u64 x3])[k / 64]? = some (.int .u64 (word x0 x1 x2 x3 k)) := by
  unfold word
  by_cases a : k < 64
  · rw [show k / 64 = 0 from by omega, if_pos (by omega)]; rfl
  by_cases b : k < 128
  · rw [show k / 64 = 1 from by omega, if_neg (by omega), if_pos (by omega)]; rfl
  by_cases c : k < 192
  · rw [show k / 64 = 2 from by omega, if_neg (by omega), if_neg (by omega), if_pos (by omega)]; rfl
  · rw [show k / 64 = 3 from by omega, if_neg (by omega), if_neg (by omega), if_neg (by omega)]; rfl
theorem word_range {x0 x1 x2 x3 : Int} (hw : Words x0 x1 x2 x3) (c : Int) : 0 ≤ word x0 x1 x2 x3 c ∧ word x0 x1 x2 x3 c ≤ 18446744073709551615 := by
  obtain ⟨h0, h1, h2, h3⟩ := hw
  unfold word
  split
  · exact h0
  split
  · exact h1
  split
  · exact h2
  · exact h3
theorem pow_step (X : Int) (j : Nat) : X / 2 ^ (j + 1) = X / 2 ^ j / 2 := by
  have hp : (0 : Int) < 2 ^ j := Int.pow_pos (by omega)
  rw [Int.pow_succ, Int.ediv_ediv_of_nonneg (by omega)]
theorem pow_range {X : Int} (h0 : 0 ≤ X) (h1 : X ≤ 18446744073709551615) (j : Nat) : 0 ≤ X / 2 ^ j ∧ X / 2 ^ j ≤ 18446744073709551615 := by
  have hp : (0 : Int) < 2 ^ j := Int.pow_pos (by omega)
  have l0 : 0 ≤ X / 2 ^ j := Int.ediv_nonneg h0 (by omega)
  have l1 : X / 2 ^ j ≤ X := Int.ediv_le_self _ h0
  omega
theorem has_word (x0 x1 x2 x3 : Int) (k : Nat) : (if has x0 x1 x2 x3 (k : Int) then (1 : Int) else 0) = word x0 x1 x2 x3 k / 2 ^ (k % 64) % 2 := by
  have e : ((k : Int) % 64).toNat = k % 64 := by omega
  unfold has
  rw [e]
  show (if decide (word x0 x1 x2 x3 k / 2 ^ (k % 64) % 2 = 1) then (1 : Int) else 0) = _
  generalize word x0 x1 x2 x3 k / 2 ^ (k % 64) = y
  by_cases h : y % 2 = 1
  · simp [h]
  · simp [h]; omega

set_option maxRecDepth 100000 in
set_option maxHeartbeats 4000000 in
/-- Words of the reference. -/
theorem rwords_any (x0 x1 x2 x3 : Int) (w : World) (hw : Words x0 x1 x2 x3) :
    Calls Try.prog 26 #[.agg #[.int .u64 x0, .int .u64 x1, .int .u64 x2, .int .u64 x3]] w fun e w' => (∃ S, e = .returned (.agg S) ∧ Rs S (has x0 x1 x2 x3)) ∧ Below w.heap.size w w' := by
  obtain ⟨Z, hz, hzs, hzc⟩ := z60
  have HZ := Lib.hid hzc
  have HZS := Lib.hid hzs
  clear hzc hzs
  go_enter Try.func26, Try.ntmps26
  go_wp2_with fail
  go_loopw [4] (fun i wr => ∃ (k : Nat) (S : Array Value), k ≤ 256 ∧ i = .int .i64 k ∧ Blk wr w.heap.size 23 #[.int .u64 x0, .int .u64 x1, .int .u64 x2, .int .u64 x3] ∧ Blk wr (w.heap.size + 1) 60 Z ∧ Blk wr (w.heap.size + 1 + 1) 60 S ∧ S.size = 256 ∧ (∀ c : Nat, c < k → S[c]? = some (.int .i64 (if has x0 x1 x2 x3 (c : Int) then 1 else 0))) ∧ Below w.heap.size w wr) (fun i _ => 256 - (intOf i).toNat)
  case atStart =>
    refine ⟨0, Z, by omega, rfl, ((Blk.new w 23 _).alloc _).alloc _, ?_, ?_, HZS.out, fun c hc => absurd hc (by omega), by go_grown⟩
    · have := (Blk.new (w.alloc (.cells #[.int .u64 x0, .int .u64 x1, .int .u64 x2, .int .u64 x3] 23)) 60 Z).alloc (.cells Z 60)
      rw [World.size_alloc] at this
      exact this
    · have := Blk.new ((w.alloc (.cells #[.int .u64 x0, .int .u64 x1, .int .u64 x2, .int .u64 x3] 23)).alloc (.cells Z 60)) 60 Z
      rw [World.size_alloc, World.size_alloc] at this
      exact this
  case round =>
    obtain ⟨k, S, hk, rfl, h0, h1, h2, hs, hc, hb⟩ := hrel
    have HC := Lib.hid hc
    have HSZ := Lib.hid hs
    by_cases hlt : k < 256
    · clear hc hs
      have hdiv : (k : Int) / 64 = ((k / 64 : Nat) : Int) := by omega
      have hmod : (k : Int) % 64 = ((k % 64 : Nat) : Int) := by omega
      have hr : k % 64 < 64 := Nat.mod_lt _ (by omega)
      have hq : k / 64 < 4 := by omega
      have hcell : wr.cell? ⟨w.heap.size, k / 64, none⟩ = some (.int .u64 (word x0 x1 x2 x3 k)) := (h0.cell (k / 64)).trans (word_cell x0 x1 x2 x3 k hlt)
      have hX := word_range hw (k : Int)
      have HW := Lib.hid (has_word x0 x1 x2 x3 k)
      generalize word x0 x1 x2 x3 k = X at *
      generalize k / 64 = q at *
      generalize k % 64 = r at *
      obtain ⟨hX0, hX1⟩ := hX
      go_wp2_with fail
      go_loopw [5, 6] (fun x i w' => ∃ j : Nat, j ≤ r ∧ i = .int .i64 j ∧ x = .int .u64 (X / 2 ^ j) ∧ w' = wr) (fun x i _ => r - (intOf i).toNat)
      case atStart => exact ⟨0, by omega, rfl, by simp, rfl⟩
      case round =>
        obtain ⟨j, hj, rfl, rfl, rfl⟩ := hrel
        obtain ⟨y0, y1⟩ := pow_range hX0 hX1 j
        by_cases hl2 : j < r
        · have HP := Lib.hid (pow_step X j)
          generalize X / 2 ^ j = Y at *
          go_wp2_with fail
          go_roundw
          case rel => exact ⟨j + 1, by omega, by go_num, by rw [HP.out], trivial⟩
          case measure => simp [intOf]; omega
        · obtain rfl : j = r := by omega
          have hd : wr.cell? ⟨w.heap.size + 1 + 1, k, none⟩ = some (S[k]'(by have := HSZ.out; omega)) := (h2.cell k).trans (Array.getElem?_eq_getElem _)
          have hf := h2.frozen k
          generalize X / 2 ^ j = Y at *
          go_wp2_with fail
          go_roundw
          case rel =>
            refine ⟨k + 1, S.setIfInBounds k (.int .i64 (Y % 2)), by omega, by go_num, Blk.far h0 (by simp <;> omega) _, Blk.far h1 (by simp <;> omega) _, h2.set_ k _, by simpa using HSZ.out, fun c hcl => ?_, hb.setCell (by show w.heap.size ≤ w.heap.size + 1 + 1; omega) _⟩
            rw [Array.getElem?_setIfInBounds]
            by_cases e : k = c
            · subst e; rw [if_pos rfl, if_pos (by have := HSZ.out; omega), HW.out]
            · rw [if_neg e]; exact HC.out c (by omega)
          case measure => simp [intOf]; omega
    · obtain rfl : k = 256 := by omega
      have hS : Rs S (has x0 x1 x2 x3) := ⟨hs, hc⟩
      clear hc hs HC HSZ
      have hsc := sc60 h1 HZS.out hS.1 (rs_all hS)
      have hs256 := hS.1
      go_wp2_with fail
      refine wp_load60 (.tmp 3) h2 hS.1 rfl rfl ?_
      go_wp2_with fail
      refine bodyPost_ret (v := .agg S) ?_ rfl ⟨⟨S, rfl, hS⟩, below_setRow hb (by show w.heap.size ≤ w.heap.size + 1; omega) S⟩
      exact results_cell_row rfl _ _ (w.heap.size + 1) 60 S (0, 0) _ rfl (blk_setRow h1 S) under60 rfl (by rw [hS.1]; exact info60)
end Go.Proofs.Ytdgihlelopfdeaa
