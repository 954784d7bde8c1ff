/-
  The examples of the chapter.
-/
import Derived.Test.YtdgihlelopfdeaaQuo
namespace Go.Proofs.Ytdgihlelopfdeaa
open Go.RowKit Q

@[reducible] def am : Value := .agg #[.int .u64 145135534866432, .int .u64 0, .int .u64 0, .int .u64 0]
theorem words_am : Words 145135534866432 0 0 0 := by unfold Words; omega
theorem by_dec (xs : List Int) (h : xs.all (fun x => decide (0 ≤ x) && decide (x ≤ 255)) = true) : By xs := by
  intro x hx
  have := List.all_eq_true.1 h x hx
  simpa using this

theorem aw_of (b : Nat) (w : World) (hB : Blk w b 5 #[.int .u8 47, .int .u8 42]) : Calls Try.prog 24 #[.slice (some ⟨b, 0, none⟩) 2 2] w fun e w' => e = .returned am ∧ Below w.heap.size w w' := by
  have h := of_any [47, 42] b 5 2 w (by_dec _ (by decide)) rfl (by simp) hB
  rw [show ofw [47, 42] = (145135534866432, 0, 0, 0) from by decide +kernel] at h
  exact h
theorem aw_rb (xs : List Int) (r : Int × Int × Int) (h : By xs) (hl : xs.length ≤ 1000000000) (hr : rb (mkd 145135534866432 0 0 0) xs = r) (w : World) : Calls Try.prog 20 #[.string (strOfNums xs), am] w fun e w' => e = .returned (.tuple #[.int .u8 r.1, .int .i64 r.2.1, .int .i64 r.2.2]) ∧ Below w.heap.size w w' := by
  rw [← hr]; exact rb_is _ _ _ _ xs w words_am h hl
theorem aw_r1 (w : World) : Calls Try.prog 20 #[.string ⟨#[92, 120, 52, 49, 98]⟩, am] w fun e w' => e = .returned (.tuple #[.int .u8 65, .int .i64 4, .int .i64 0]) ∧ Below w.heap.size w w' :=
  aw_rb [92, 120, 52, 49, 98] (65, 4, 0) (by_dec _ (by decide)) (by simp) (by decide +kernel) w
theorem aw_r2 (w : World) : Calls Try.prog 20 #[.string ⟨#[92, 47]⟩, am] w fun e w' => e = .returned (.tuple #[.int .u8 47, .int .i64 2, .int .i64 0]) ∧ Below w.heap.size w w' :=
  aw_rb [92, 47] (47, 2, 0) (by_dec _ (by decide)) (by simp) (by decide +kernel) w
theorem aw_r3 (w : World) : Calls Try.prog 20 #[.string ⟨#[92, 113]⟩, am] w fun e w' => e = .returned (.tuple #[.int .u8 0, .int .i64 0, .int .i64 20]) ∧ Below w.heap.size w w' :=
  aw_rb [92, 113] (0, 0, 20) (by_dec _ (by decide)) (by simp) (by decide +kernel) w
theorem aw_r4 (w : World) : Calls Try.prog 20 #[.string ⟨#[92, 120, 52]⟩, am] w fun e w' => e = .returned (.tuple #[.int .u8 0, .int .i64 0, .int .i64 20]) ∧ Below w.heap.size w w' :=
  aw_rb [92, 120, 52] (0, 0, 20) (by_dec _ (by decide)) (by simp) (by decide +kernel) w
theorem aw_r5 (w : World) : Calls Try.prog 20 #[.string ⟨#[92]⟩, am] w fun e w' => e = .returned (.tuple #[.int .u8 0, .int .i64 0, .int .i64 20]) ∧ Below w.heap.size w w' :=
  aw_rb [92] (0, 0, 20) (by_dec _ (by decide)) (by simp) (by decide +kernel) w
theorem aw_r6 (w : World) : Calls Try.prog 20 #[.string ⟨#[42]⟩, am] w fun e w' => e = .returned (.tuple #[.int .u8 0, .int .i64 0, .int .i64 20]) ∧ Below w.heap.size w w' :=
  aw_rb [42] (0, 0, 20) (by_dec _ (by decide)) (by simp) (by decide +kernel) w
theorem aw_u (xs : List Int) (r : List Int × Nat × Int) (h : By xs) (hl : xs.length ≤ 1000000) (hr : unquo xs = r) (w : World) : Calls Try.prog 12 #[.string (strOfNums xs)] w fun e w' => e = .returned (.tuple #[.string (strOfNums r.1), .int .i64 (r.2.1 : Int), .int .i64 r.2.2]) ∧ Below w.heap.size w w' := by
  rw [← hr]; exact unquo_any xs w h hl
theorem aw_u1 (w : World) : Calls Try.prog 12 #[.string ⟨#[34, 97, 34, 32, 98]⟩] w fun e w' => e = .returned (.tuple #[.string ⟨#[97]⟩, .int .i64 3, .int .i64 0]) ∧ Below w.heap.size w w' :=
  aw_u [34, 97, 34, 32, 98] ([97], 3, 0) (by_dec _ (by decide)) (by simp) (by decide +kernel) w
theorem aw_u2 (w : World) : Calls Try.prog 12 #[.string ⟨#[34, 97]⟩] w fun e w' => e = .returned (.tuple #[.string ⟨#[]⟩, .int .i64 2, .int .i64 21]) ∧ Below w.heap.size w w' :=
  aw_u [34, 97] ([], 2, 21) (by_dec _ (by decide)) (by simp) (by decide +kernel) w
theorem aw_u3 (w : World) : Calls Try.prog 12 #[.string ⟨#[34, 92, 113, 34]⟩] w fun e w' => e = .returned (.tuple #[.string ⟨#[]⟩, .int .i64 1, .int .i64 20]) ∧ Below w.heap.size w w' :=
  aw_u [34, 92, 113, 34] ([], 1, 20) (by_dec _ (by decide)) (by simp) (by decide +kernel) w
theorem aw_c (w : World) : Calls Try.prog 15 #[.string ⟨#[92, 120, 54, 49, 92, 120, 50, 102]⟩, am] w fun e w' => e = .returned (.tuple #[.string ⟨#[97, 92, 47]⟩, .int .i64 8, .int .i64 0]) ∧ Below w.heap.size w w' := by
  have hr : rbs (mkd 145135534866432 0 0 0) 8 0 [] [92, 120, 54, 49, 92, 120, 50, 102] = ([97, 47], 8, 0) := by decide +kernel
  have h := canonical_any 145135534866432 0 0 0 [92, 120, 54, 49, 92, 120, 50, 102] w words_am (by_dec _ (by decide)) (by simp) [97, 47] 8 0 (by show _ = (rbs _ 8 0 [] _).1; rw [hr]) (by show _ = (((rbs _ 8 0 [] _).2.1 : Nat) : Int); rw [hr]; rfl) (by show _ = (rbs _ 8 0 [] _).2.2; rw [hr]) (by_dec _ (by decide)) (by simp)
  rw [show qbs (mkd 145135534866432 0 0 0) [97, 47] = [97, 92, 47] from by decide +kernel] at h
  exact h
theorem aw_b1 (w : World) : Calls Try.prog 18 #[.string ⟨#[97, 47, 98]⟩, am] w fun e w' => e = .returned (.string ⟨#[97, 92, 47, 98]⟩) ∧ Below w.heap.size w w' := by
  have h := bytes_any 145135534866432 0 0 0 [97, 47, 98] w words_am (by_dec _ (by decide)) (by simp)
  rw [show qbs (mkd 145135534866432 0 0 0) [97, 47, 98] = [97, 92, 47, 98] from by decide +kernel] at h
  exact h
theorem aw_b2 (w : World) : Calls Try.prog 18 #[.string ⟨#[0, 200]⟩, am] w fun e w' => e = .returned (.string ⟨#[92, 120, 48, 48, 92, 120, 99, 56]⟩) ∧ Below w.heap.size w w' := by
  have h := bytes_any 145135534866432 0 0 0 [0, 200] w words_am (by_dec _ (by decide)) (by simp)
  rw [show qbs (mkd 145135534866432 0 0 0) [0, 200] = [92, 120, 48, 48, 92, 120, 99, 56] from by decide +kernel] at h
  exact h
theorem aw_b3 (w : World) : Calls Try.prog 14 #[.int .u8 10, am] w fun e w' => e = .returned (.string ⟨#[92, 110]⟩) ∧ Below w.heap.size w w' := byte_10 _ w
theorem aw_q (w : World) : Calls Try.prog 11 #[.string ⟨#[97, 34, 98, 92]⟩] w fun e w' => e = .returned (.string ⟨#[34, 97, 92, 34, 98, 92, 92, 34]⟩) ∧ Below w.heap.size w w' := by
  have h := quote_any [97, 34, 98, 92] w (by_dec _ (by decide)) (by simp)
  rw [show quo [97, 34, 98, 92] = [34, 97, 92, 34, 98, 92, 92, 34] from by decide +kernel] at h
  exact h

set_option maxRecDepth 100000 in
set_option maxHeartbeats 4000000 in
theorem awake_any (w : World) : Calls Try.prog 10 #[] w fun e w' => e = .returned (.bool true) ∧ Below w.heap.size w w' := by
  go_enter Try.func10, Try.ntmps10
  go_wp2_with (first | (go_at_call 24; refine (aw_of _ _ (Blk.new _ _ _)).mono ?_; rintro e w1 ⟨rfl, hb1⟩))
  have hk0 := Blk.new w1 24 #[.int .u64 145135534866432, .int .u64 0, .int .u64 0, .int .u64 0]
  have hB0 : Below w.heap.size w (w1.alloc (.cells #[.int .u64 145135534866432, .int .u64 0, .int .u64 0, .int .u64 0] 24)) := bl (bl (by go_grown) hb1) ((Below.refl _ w1).alloc (Nat.le_refl _) _)
  clear hb1
  refine (aw_r1 _).mono ?_
  rintro e w2 ⟨rfl, hb⟩
  have hkw2 := hk0.below hb hk0.lt
  have hBw2 := bl hB0 hb
  clear hb hk0 hB0
  have q0 := hkw2.cell 0
  have q1 := hkw2.cell 1
  have q2 := hkw2.cell 2
  have q3 := hkw2.cell 3
  go_wp2_with fail
  refine (aw_r2 _).mono ?_
  rintro e w3 ⟨rfl, hb⟩
  have hkw3 := hkw2.below hb hkw2.lt
  have hBw3 := bl hBw2 hb
  clear hb hkw2 hBw2
  have q0 := hkw3.cell 0
  have q1 := hkw3.cell 1
  have q2 := hkw3.cell 2
  have q3 := hkw3.cell 3
  go_wp2_with fail
  go_loopw [41] (fun i wr => ∃ k : Nat, k ≤ 4 ∧ i = .int .i64 k ∧ Blk wr w3.heap.size 9 #[.string ⟨#[92, 113]⟩, .string ⟨#[92, 120, 52]⟩, .string ⟨#[92]⟩, .string ⟨#[42]⟩] ∧ Blk wr w1.heap.size 24 #[.int .u64 145135534866432, .int .u64 0, .int .u64 0, .int .u64 0] ∧ Below w.heap.size w wr) (fun i _ => 4 - (intOf i).toNat)
  case atStart => exact ⟨0, by omega, rfl, Blk.new _ _ _, hkw3.alloc _, hBw3.alloc (by have := hBw3.size; omega) _⟩
  case round =>
    obtain ⟨k, hk, rfl, hs, hm, hB⟩ := hrel
    have q0 := hm.cell 0
    have q1 := hm.cell 1
    have q2 := hm.cell 2
    have q3 := hm.cell 3
    have s0 := hs.cell 0
    have s1 := hs.cell 1
    have s2 := hs.cell 2
    have s3 := hs.cell 3
    have hkk : k = 0 ∨ k = 1 ∨ k = 2 ∨ k = 3 ∨ k = 4 := by omega
    rcases hkk with rfl | rfl | rfl | rfl | rfl
    · go_wp2_with (go_at_call 20; refine (aw_r3 _).mono ?_; rintro e w4 ⟨rfl, hb⟩)
      go_roundw
      case rel => exact ⟨1, by omega, by rfl, hs.below hb hs.lt, hm.below hb hm.lt, bl hB hb⟩
      case measure => simp [intOf]
    · go_wp2_with (go_at_call 20; refine (aw_r4 _).mono ?_; rintro e w4 ⟨rfl, hb⟩)
      go_roundw
      case rel => exact ⟨2, by omega, by rfl, hs.below hb hs.lt, hm.below hb hm.lt, bl hB hb⟩
      case measure => simp [intOf]
    · go_wp2_with (go_at_call 20; refine (aw_r5 _).mono ?_; rintro e w4 ⟨rfl, hb⟩)
      go_roundw
      case rel => exact ⟨3, by omega, by rfl, hs.below hb hs.lt, hm.below hb hm.lt, bl hB hb⟩
      case measure => simp [intOf]
    · go_wp2_with (go_at_call 20; refine (aw_r6 _).mono ?_; rintro e w4 ⟨rfl, hb⟩)
      go_roundw
      case rel => exact ⟨4, by omega, by rfl, hs.below hb hs.lt, hm.below hb hm.lt, bl hB hb⟩
      case measure => simp [intOf]
    · clear s0 s1 s2 s3 hs hkw3 hBw3
      go_wp2_with fail
      have hk5 := hm
      have hB5 := hB
      clear hm hB
      refine (aw_u1 _).mono ?_
      rintro e w6 ⟨rfl, hb⟩
      have hkw6 := hk5.below hb hk5.lt
      have hBw6 := bl hB5 hb
      clear hb hk5 hB5
      have q0 := hkw6.cell 0
      have q1 := hkw6.cell 1
      have q2 := hkw6.cell 2
      have q3 := hkw6.cell 3
      go_wp2_with fail
      refine (aw_u2 _).mono ?_
      rintro e w7 ⟨rfl, hb⟩
      have hkw7 := hkw6.below hb hkw6.lt
      have hBw7 := bl hBw6 hb
      clear hb hkw6 hBw6
      have q0 := hkw7.cell 0
      have q1 := hkw7.cell 1
      have q2 := hkw7.cell 2
      have q3 := hkw7.cell 3
      go_wp2_with fail
      refine (aw_u3 _).mono ?_
      rintro e w8 ⟨rfl, hb⟩
      have hkw8 := hkw7.below hb hkw7.lt
      have hBw8 := bl hBw7 hb
      clear hb hkw7 hBw7
      have q0 := hkw8.cell 0
      have q1 := hkw8.cell 1
      have q2 := hkw8.cell 2
      have q3 := hkw8.cell 3
      go_wp2_with fail
      refine (aw_c _).mono ?_
      rintro e w9 ⟨rfl, hb⟩
      have hkw9 := hkw8.below hb hkw8.lt
      have hBw9 := bl hBw8 hb
      clear hb hkw8 hBw8
      have q0 := hkw9.cell 0
      have q1 := hkw9.cell 1
      have q2 := hkw9.cell 2
      have q3 := hkw9.cell 3
      go_wp2_with fail
      refine (aw_b1 _).mono ?_
      rintro e w10 ⟨rfl, hb⟩
      have hkw10 := hkw9.below hb hkw9.lt
      have hBw10 := bl hBw9 hb
      clear hb hkw9 hBw9
      have q0 := hkw10.cell 0
      have q1 := hkw10.cell 1
      have q2 := hkw10.cell 2
      have q3 := hkw10.cell 3
      go_wp2_with fail
      refine (aw_b2 _).mono ?_
      rintro e w11 ⟨rfl, hb⟩
      have hkw11 := hkw10.below hb hkw10.lt
      have hBw11 := bl hBw10 hb
      clear hb hkw10 hBw10
      have q0 := hkw11.cell 0
      have q1 := hkw11.cell 1
      have q2 := hkw11.cell 2
      have q3 := hkw11.cell 3
      go_wp2_with fail
      refine (aw_b3 _).mono ?_
      rintro e w12 ⟨rfl, hb⟩
      have hkw12 := hkw11.below hb hkw11.lt
      have hBw12 := bl hBw11 hb
      clear hb hkw11 hBw11
      have q0 := hkw12.cell 0
      have q1 := hkw12.cell 1
      have q2 := hkw12.cell 2
      have q3 := hkw12.cell 3
      go_wp2_with fail
      refine (aw_q _).mono ?_
      rintro e w13 ⟨rfl, hb⟩
      have hkw13 := hkw12.below hb hkw12.lt
      have hBw13 := bl hBw12 hb
      clear hb hkw12 hBw12
      have q0 := hkw13.cell 0
      have q1 := hkw13.cell 1
      have q2 := hkw13.cell 2
      have q3 := hkw13.cell 3
      go_wp2_with fail
      go_ret
      exact ⟨rfl, hBw13⟩
end Go.Proofs.Ytdgihlelopfdeaa
