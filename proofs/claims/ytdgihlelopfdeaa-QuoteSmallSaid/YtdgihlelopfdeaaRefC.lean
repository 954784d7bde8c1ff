/-
  The reference of sets: Words, Of (of the mark of a text in quotes).
-/
import Derived.Test.YtdgihlelopfdeaaRefB
namespace Go.Proofs.Ytdgihlelopfdeaa
open Go.RowKit Q

theorem z60_is : (Try.prog.info? 60).map (fun i => (i.zero, i.size)) = some (some (.agg (Array.replicate 256 (.int .i64 0))), 256) := by kernel_rfl
theorem z60 : ∃ Z : Array Value, (∀ w, (zeroValue 60).run Try.prog w = .ok (.agg Z) w) ∧ Z.size = 256 ∧ ∀ c, c < 256 → Z[c]? = some (.int .i64 0) :=
  ⟨_, (zero_of_info z60_is).1, by simp, fun c hc => by simp [hc]⟩

theorem sc60 {W : World} {b : Nat} {S Z : Array Value} (hB : Blk W b 60 Z) (hz : Z.size = 256) (hs : S.size = 256) (h1 : S.all (·.oneCell') = true) : (storeCells ⟨b, 0, none⟩ S.toList).run Try.prog W = .ok () (W.setRow b S) := by
  have hi : (Try.prog.info? 60).map (·.size) = some S.size := by rw [hs]; exact info60
  have := run_storeVar_row (P := Try.prog) W b 60 60 Z S hB hi (by rw [hz, hs]) h1
  cases hq : Try.prog.info? 60 with
  | none => simp [hq] at hi
  | some i =>
    have hs : S.size = i.size := by simp [hq] at hi; omega
    simpa [storeVar, sizeOf, typeInfo, hq, Value.cells, hs] using this

theorem blk_setRow {w : World} {g : Nat} {t : TypeId} {cs : Array Value} (h : Blk w g t cs) (S : Array Value) : Blk (w.setRow g S) g t S := by
  unfold Blk at h ⊢
  simp [World.setRow, Array.getElem?_modify, h]
theorem below_setRow {B : Nat} {a w : World} (h : Below B a w) {g : Nat} (hg : B ≤ g) (S : Array Value) : Below B a (w.setRow g S) :=
  ⟨h.os, h.tape, h.output, by simpa [World.setRow] using h.size, fun i hi => by
    rw [← h.block i hi]
    simp only [World.setRow, Array.getElem?_modify]
    rw [if_neg (by omega)]⟩

theorem rs_all {S : Array Value} {h : Int → Bool} (hS : Rs S h) : S.all (·.oneCell') = true := by
  rw [Array.all_eq_true]
  intro i hi
  have hz := hS.1
  have := hS.2 i (by omega)
  rw [Array.getElem?_eq_getElem hi] at this
  injection this with this
  rw [this]
  rfl

set_option maxRecDepth 100000 in
set_option maxHeartbeats 4000000 in
/-- Of the reference, of the mark alone. -/
theorem rof_q (b t : Nat) (w : World) (hB : Blk w b t #[.int .u8 34]) :
    Calls Try.prog 32 #[.slice (some ⟨b, 0, none⟩) 1 1] w fun e w' => (∃ S, e = .returned (.agg S) ∧ Rs S (fun c => decide (c = 34))) ∧ Below w.heap.size w w' := by
  obtain ⟨Z, hz, hzs, hzc⟩ := z60
  have hlt := hB.lt
  have HZ := Lib.hid hzc
  have HZS := Lib.hid hzs
  clear hzc hzs
  go_enter Try.func32, Try.ntmps32
  go_wp2_with fail
  go_loopw [4] (fun i wr => ∃ k : Nat, k ≤ 1 ∧ i = .int .i64 k ∧ Blk wr w.heap.size 60 Z ∧ Blk wr (w.heap.size + 1) 60 (if k = 0 then Z else Z.setIfInBounds 34 (.int .i64 1)) ∧ Below w.heap.size w wr) (fun i _ => 1 - (intOf i).toNat)
  case atStart =>
    refine ⟨0, by omega, rfl, (Blk.new w 60 Z).alloc _, ?_, by go_grown⟩
    have := Blk.new (w.alloc (.cells Z 60)) 60 Z
    rw [World.size_alloc] at this
    exact this
  case round =>
    obtain ⟨k, hk, rfl, h0, h1, hb⟩ := hrel
    have hkk : k = 0 ∨ k = 1 := by omega
    rcases hkk with rfl | rfl
    · rw [if_pos rfl] at h1
      have hc : wr.cell? ⟨b, 0, none⟩ = some (.int .u8 34) := by rw [hb.cell (p := ⟨b, 0, none⟩) hlt, hB.cell 0]; rfl
      have hd : wr.cell? ⟨w.heap.size + 1, 34, none⟩ = some (.int .i64 0) := (h1.cell 34).trans (HZ.out 34 (by omega))
      have hf := h1.frozen 34
      go_wp2_with fail
      go_roundw
      case rel => exact ⟨1, by omega, by rfl, Blk.far h0 (by simp) _, by rw [if_neg (by omega)]; exact h1.set_ 34 _, hb.setCell (by show w.heap.size ≤ w.heap.size + 1; omega) _⟩
      case measure => simp [intOf]
    · rw [if_neg (by omega)] at h1
      have hS : Rs (Z.setIfInBounds 34 (.int .i64 1)) (fun c => decide (c = 34)) := by
        have hzs := HZS.out
        refine ⟨by simpa using hzs, fun c hc => ?_⟩
        rw [Array.getElem?_setIfInBounds]
        by_cases e : 34 = c
        · subst e; rw [if_pos rfl, if_pos (by omega)]; rfl
        · rw [if_neg e, HZ.out c hc, if_neg (by simp; omega)]
      generalize Z.setIfInBounds 34 (.int .i64 1) = S at *
      go_wp2_with fail
      refine wp_load60 (.tmp 3) h1 hS.1 rfl rfl ?_
      have hsc := sc60 h0 HZS.out hS.1 (rs_all hS)
      have hs256 := hS.1
      go_wp2_with fail
      refine bodyPost_ret (v := .agg S) ?_ rfl ⟨⟨S, rfl, hS⟩, below_setRow hb (Nat.le_refl _) S⟩
      exact results_cell_row rfl _ _ w.heap.size 60 S (0, 0) _ rfl (blk_setRow h0 S) under60 rfl (by rw [hS.1]; exact info60)
end Go.Proofs.Ytdgihlelopfdeaa
