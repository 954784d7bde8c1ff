/-
  quote.ReadByte: what begins with a backslash; and the whole.
-/
import Derived.Test.YtdgihlelopfdeaaRb
namespace Go.Proofs.Ytdgihlelopfdeaa
open Go.RowKit Q

theorem lets_none (c : Int) (h0 : 0 ≤ c) (h1 : c ≤ 255) (a : c ≠ 110) (b : c ≠ 114) (d : c ≠ 116) : Lib.indexByte (⟨#[110, 114, 116]⟩ : ByteArray).data.toList c.toNat.toUInt8 = -1 := by
  obtain ⟨n, rfl⟩ := Int.eq_ofNat_of_zero_le h0
  have H : ∀ m : Fin 256, m.val ≠ 110 → m.val ≠ 114 → m.val ≠ 116 → Lib.indexByte (⟨#[110, 114, 116]⟩ : ByteArray).data.toList m.val.toUInt8 = -1 := by decide +kernel
  exact H ⟨n, by omega⟩ (fun e => a (by dsimp only at e; omega)) (fun e => b (by dsimp only at e; omega)) (fun e => d (by dsimp only at e; omega))

set_option maxHeartbeats 1600000 in
theorem rb_bs1 (x0 x1 x2 x3 : Int) (xs : List Int) (w : World) (hb : By xs) (hl : xs.length ≤ 1000000000) (hl1 : xs.length = 1) (hc : xs.getD 0 0 = 92) :
    Calls Try.prog 20 #[.string (strOfNums xs), .agg #[.int .u64 x0, .int .u64 x1, .int .u64 x2, .int .u64 x3]] w fun e w' => e = .returned (.tuple #[.int .u8 0, .int .i64 0, .int .i64 20]) ∧ Below w.heap.size w w' := by
  have i0 := idx_lit hb 0 (by omega) 92 0 rfl hc
  have hne := str_nonempty (xs := xs) (by omega)
  have hsz : (strOfNums xs).size = xs.length := strOfNums_size xs
  have hm63 : xs.length ≤ 1000000000 := hl
  have h2 : (xs.length : Int) < 2 := by omega
  have HL1 := Lib.hid hl1
  clear hl1 hc
  have q0 : ∀ p : Bw (w.alloc (.cells #[.int .u64 x0, .int .u64 x1, .int .u64 x2, .int .u64 x3] 24)), p.val.cell? ⟨w.heap.size, 0, none⟩ = some (.int .u64 x0) := Bw.cell (by simp) (by simp [go_sem])
  have q1 : ∀ p : Bw (w.alloc (.cells #[.int .u64 x0, .int .u64 x1, .int .u64 x2, .int .u64 x3] 24)), p.val.cell? ⟨w.heap.size, 1, none⟩ = some (.int .u64 x1) := Bw.cell (by simp) (by simp [go_sem])
  have q2 : ∀ p : Bw (w.alloc (.cells #[.int .u64 x0, .int .u64 x1, .int .u64 x2, .int .u64 x3] 24)), p.val.cell? ⟨w.heap.size, 2, none⟩ = some (.int .u64 x2) := Bw.cell (by simp) (by simp [go_sem])
  have q3 : ∀ p : Bw (w.alloc (.cells #[.int .u64 x0, .int .u64 x1, .int .u64 x2, .int .u64 x3] 24)), p.val.cell? ⟨w.heap.size, 3, none⟩ = some (.int .u64 x3) := Bw.cell (by simp) (by simp [go_sem])
  go_enter Try.func20, Try.ntmps20
  go_wp2_with fail
  refine wp_region_bw (by kernel_rfl) (by kernel_rfl) ?_
  repeat (go_big_quiet_step ((fail)))
  refine wpQuiet_nil ?_
  rintro _ ⟨p, rfl⟩
  go_wp2_with fail
  go_ret3
  exact ⟨rfl, bl (by go_grown) p.prop⟩

theorem or_hex (a b : Int) (ha : 0 ≤ a ∧ a < 16) (hb : 0 ≤ b ∧ b < 16) : bits .or .i64 (a * 16) b = 16 * a + b := by
  obtain ⟨n, rfl⟩ := Int.eq_ofNat_of_zero_le ha.1
  obtain ⟨m, rfl⟩ := Int.eq_ofNat_of_zero_le hb.1
  have H : ∀ x y : Fin 16, bits .or .i64 (((x.val : Nat) : Int) * 16) ((y.val : Nat) : Int) = 16 * ((x.val : Nat) : Int) + ((y.val : Nat) : Int) := by decide +kernel
  exact H ⟨n, by omega⟩ ⟨m, by omega⟩

set_option maxHeartbeats 2000000 in
set_option maxRecDepth 100000 in
theorem rb_hex (x0 x1 x2 x3 : Int) (xs : List Int) (w : World) (hb : By xs) (hl : xs.length ≤ 1000000000) (hl4 : 4 ≤ xs.length) (hc : xs.getD 0 0 = 92) (hc1 : xs.getD 1 0 = 120) (d f : Int) (hd : xs.getD 2 0 = d) (he : xs.getD 3 0 = f) (hnd : nib d < 16) (hne' : nib f < 16) :
    Calls Try.prog 20 #[.string (strOfNums xs), .agg #[.int .u64 x0, .int .u64 x1, .int .u64 x2, .int .u64 x3]] w fun e w' => e = .returned (.tuple #[.int .u8 (16 * nib d + nib f), .int .i64 4, .int .i64 0]) ∧ Below w.heap.size w w' := by
  have i0 := idx_lit hb 0 (by omega) 92 0 rfl hc
  have hne := str_nonempty (xs := xs) (by omega)
  have hsz : (strOfNums xs).size = xs.length := strOfNums_size xs
  have hm63 : xs.length ≤ 1000000000 := hl
  have i1 := idx_lit hb 1 (by omega) 120 1 rfl hc1
  have i2 := idx_lit hb 2 (by omega) d 2 rfl hd
  have i3 := idx_lit hb 3 (by omega) f 3 rfl he
  have rd : 0 ≤ d ∧ d ≤ 255 := hd ▸ by_getD hb 2
  have re : 0 ≤ f ∧ f ≤ 255 := he ▸ by_getD hb 3
  have nd := fun w => nib_any d w rd.1 rd.2
  have ne := fun w => nib_any f w re.1 re.2
  have hor := or_hex (nib d) (nib f) ⟨(nib_range d).1, hnd⟩ ⟨(nib_range f).1, hne'⟩
  have r0 := (nib_range d).1
  have r1 := (nib_range f).1
  generalize nib d = a at *
  generalize nib f = b at *
  have ND := Lib.hid nd
  have NE := Lib.hid ne
  clear hc hc1 hd he nd ne rd re
  have q0 : ∀ p : Bw (w.alloc (.cells #[.int .u64 x0, .int .u64 x1, .int .u64 x2, .int .u64 x3] 24)), p.val.cell? ⟨w.heap.size, 0, none⟩ = some (.int .u64 x0) := Bw.cell (by simp) (by simp [go_sem])
  have q1 : ∀ p : Bw (w.alloc (.cells #[.int .u64 x0, .int .u64 x1, .int .u64 x2, .int .u64 x3] 24)), p.val.cell? ⟨w.heap.size, 1, none⟩ = some (.int .u64 x1) := Bw.cell (by simp) (by simp [go_sem])
  have q2 : ∀ p : Bw (w.alloc (.cells #[.int .u64 x0, .int .u64 x1, .int .u64 x2, .int .u64 x3] 24)), p.val.cell? ⟨w.heap.size, 2, none⟩ = some (.int .u64 x2) := Bw.cell (by simp) (by simp [go_sem])
  have q3 : ∀ p : Bw (w.alloc (.cells #[.int .u64 x0, .int .u64 x1, .int .u64 x2, .int .u64 x3] 24)), p.val.cell? ⟨w.heap.size, 3, none⟩ = some (.int .u64 x3) := Bw.cell (by simp) (by simp [go_sem])
  go_enter Try.func20, Try.ntmps20
  go_wp2_with fail
  refine wp_region_bw (by kernel_rfl) (by kernel_rfl) ?_
  repeat (go_big_quiet_step ((fail)))
  refine wpQuiet_nil ?_
  rintro _ ⟨p, rfl⟩
  go_wp2_with (first | (go_at_call 34; refine (ib_any _ _ (-1) _ (by decide +kernel)).mono ?_; rintro e w' ⟨rfl, rfl⟩) | (go_at_call_of 37 (Value.int IntKind.u8 d); refine (ND.out _).mono ?_; rintro e w' ⟨rfl, rfl⟩) | (go_at_call_of 37 (Value.int IntKind.u8 f); refine (NE.out _).mono ?_; rintro e w' ⟨rfl, rfl⟩))
  have w16 : IntKind.i64.wrap (a * 16) = a * 16 := by rw [IntKind.wrap_i64]; omega
  have w8 : IntKind.u8.wrap (16 * a + b) = 16 * a + b := by rw [IntKind.wrap_u8]; omega
  refine wp_region_bw (by kernel_rfl) (by kernel_rfl) ?_
  repeat (go_big_quiet_step ((first | (go_at_call_of 37 (Value.int IntKind.u8 d); exact calls_bw_same (ND.out _)) | (go_at_call_of 37 (Value.int IntKind.u8 f); exact calls_bw_same (NE.out _)))))
  refine wpQuiet_nil ?_
  rintro _ ⟨q, rfl⟩
  clear w16 w8
  go_wp2_with fail
  go_ret3
  exact ⟨rfl, bl (bl (by go_grown) p.prop) q.prop⟩

theorem letter_not (x0 x1 x2 x3 : Int) {c : Int} (h : letter c = true) : mkd x0 x1 x2 x3 c = false := by simp [mkd, h]

set_option maxHeartbeats 2000000 in
set_option maxRecDepth 100000 in
/-- A backslash, and one behind it. -/
theorem rb_bsbs (x0 x1 x2 x3 : Int) (xs : List Int) (w : World) (hb : By xs) (hl : xs.length ≤ 1000000000) (hl2 : 2 ≤ xs.length) (hc : xs.getD 0 0 = 92) (hc1 : xs.getD 1 0 = 92) :
    Calls Try.prog 20 #[.string (strOfNums xs), .agg #[.int .u64 x0, .int .u64 x1, .int .u64 x2, .int .u64 x3]] w fun e w' => e = .returned (.tuple #[.int .u8 92, .int .i64 2, .int .i64 0]) ∧ Below w.heap.size w w' := by
  have i0 := idx_lit hb 0 (by omega) 92 0 rfl hc
  have hne := str_nonempty (xs := xs) (by omega)
  have hsz : (strOfNums xs).size = xs.length := strOfNums_size xs
  have hm63 : xs.length ≤ 1000000000 := hl
  have i1 := idx_lit hb 1 (by omega) 92 1 rfl hc1
  clear hc hc1
  have q0 : ∀ p : Bw (w.alloc (.cells #[.int .u64 x0, .int .u64 x1, .int .u64 x2, .int .u64 x3] 24)), p.val.cell? ⟨w.heap.size, 0, none⟩ = some (.int .u64 x0) := Bw.cell (by simp) (by simp [go_sem])
  have q1 : ∀ p : Bw (w.alloc (.cells #[.int .u64 x0, .int .u64 x1, .int .u64 x2, .int .u64 x3] 24)), p.val.cell? ⟨w.heap.size, 1, none⟩ = some (.int .u64 x1) := Bw.cell (by simp) (by simp [go_sem])
  have q2 : ∀ p : Bw (w.alloc (.cells #[.int .u64 x0, .int .u64 x1, .int .u64 x2, .int .u64 x3] 24)), p.val.cell? ⟨w.heap.size, 2, none⟩ = some (.int .u64 x2) := Bw.cell (by simp) (by simp [go_sem])
  have q3 : ∀ p : Bw (w.alloc (.cells #[.int .u64 x0, .int .u64 x1, .int .u64 x2, .int .u64 x3] 24)), p.val.cell? ⟨w.heap.size, 3, none⟩ = some (.int .u64 x3) := Bw.cell (by simp) (by simp [go_sem])
  go_enter Try.func20, Try.ntmps20
  go_wp2_with fail
  refine wp_region_bw (by kernel_rfl) (by kernel_rfl) ?_
  repeat (go_big_quiet_step ((fail)))
  refine wpQuiet_nil ?_
  rintro _ ⟨p, rfl⟩
  go_wp2_with (go_at_call 34; refine (ib_any _ _ (-1) _ (by decide +kernel)).mono ?_; rintro e w' ⟨rfl, rfl⟩)
  go_ret3
  exact ⟨rfl, bl (by go_grown) p.prop⟩

set_option maxHeartbeats 2000000 in
set_option maxRecDepth 100000 in
/-- A backslash, and a mark behind it. -/
theorem rb_mark (x0 x1 x2 x3 : Int) (xs : List Int) (w : World) (hb : By xs) (c : Int) (hw : Words x0 x1 x2 x3) (hl : xs.length ≤ 1000000000) (hl2 : 2 ≤ xs.length) (hc : xs.getD 0 0 = 92) (hc1 : xs.getD 1 0 = c) (hcr : 0 ≤ c ∧ c ≤ 255) (h92 : c ≠ 92) (hm : mkd x0 x1 x2 x3 c = true) :
    Calls Try.prog 20 #[.string (strOfNums xs), .agg #[.int .u64 x0, .int .u64 x1, .int .u64 x2, .int .u64 x3]] w fun e w' => e = .returned (.tuple #[.int .u8 c, .int .i64 2, .int .i64 0]) ∧ Below w.heap.size w w' := by
  have i0 := idx_lit hb 0 (by omega) 92 0 rfl hc
  have hne := str_nonempty (xs := xs) (by omega)
  have hsz : (strOfNums xs).size = xs.length := strOfNums_size xs
  have hm63 : xs.length ≤ 1000000000 := hl
  have i1 := idx_lit hb 1 (by omega) c 1 rfl hc1
  have hmk := fun w => mark_any x0 x1 x2 x3 c w hw hcr.1 hcr.2
  have hlet : letter c = false := by cases h : letter c; rfl; rw [letter_not x0 x1 x2 x3 h] at hm; exact absurd hm (by simp)
  have hn : c ≠ 110 ∧ c ≠ 114 ∧ c ≠ 116 ∧ c ≠ 120 := by
    refine ⟨?_, ?_, ?_, ?_⟩ <;> (rintro rfl; simp [letter] at hlet)
  have HI := Lib.hid (lets_none c hcr.1 hcr.2 hn.1 hn.2.1 hn.2.2.1)
  have b92 : (c == 92) = false := beq_eq_false_iff_ne.2 h92
  have b120 : (c == 120) = false := beq_eq_false_iff_ne.2 hn.2.2.2
  rw [hm] at hmk
  have HM := Lib.hid hmk
  clear hc hc1 hmk hm hlet hn h92
  have q0 : ∀ p : Bw (w.alloc (.cells #[.int .u64 x0, .int .u64 x1, .int .u64 x2, .int .u64 x3] 24)), p.val.cell? ⟨w.heap.size, 0, none⟩ = some (.int .u64 x0) := Bw.cell (by simp) (by simp [go_sem])
  have q1 : ∀ p : Bw (w.alloc (.cells #[.int .u64 x0, .int .u64 x1, .int .u64 x2, .int .u64 x3] 24)), p.val.cell? ⟨w.heap.size, 1, none⟩ = some (.int .u64 x1) := Bw.cell (by simp) (by simp [go_sem])
  have q2 : ∀ p : Bw (w.alloc (.cells #[.int .u64 x0, .int .u64 x1, .int .u64 x2, .int .u64 x3] 24)), p.val.cell? ⟨w.heap.size, 2, none⟩ = some (.int .u64 x2) := Bw.cell (by simp) (by simp [go_sem])
  have q3 : ∀ p : Bw (w.alloc (.cells #[.int .u64 x0, .int .u64 x1, .int .u64 x2, .int .u64 x3] 24)), p.val.cell? ⟨w.heap.size, 3, none⟩ = some (.int .u64 x3) := Bw.cell (by simp) (by simp [go_sem])
  go_enter Try.func20, Try.ntmps20
  go_wp2_with fail
  refine wp_region_bw (by kernel_rfl) (by kernel_rfl) ?_
  repeat (go_big_quiet_step ((fail)))
  refine wpQuiet_nil ?_
  rintro _ ⟨p, rfl⟩
  go_wp2_with (first | (go_at_call 34; refine (ib_any _ _ _ _ HI.out).mono ?_; rintro e w' ⟨rfl, rfl⟩) | (go_at_call 35; refine (HM.out _).mono ?_; rintro e w2 ⟨rfl, hb2⟩; have hz2 := hb2.size))
  go_ret3
  exact ⟨rfl, bl (bl (by go_grown) p.prop) hb2⟩

set_option maxHeartbeats 2000000 in
set_option maxRecDepth 100000 in
theorem rb_let_n (x0 x1 x2 x3 : Int) (xs : List Int) (w : World) (hb : By xs) (hw : Words x0 x1 x2 x3) (hl : xs.length ≤ 1000000000) (hl2 : 2 ≤ xs.length) (hc : xs.getD 0 0 = 92) (hc1 : xs.getD 1 0 = 110) :
    Calls Try.prog 20 #[.string (strOfNums xs), .agg #[.int .u64 x0, .int .u64 x1, .int .u64 x2, .int .u64 x3]] w fun e w' => e = .returned (.tuple #[.int .u8 10, .int .i64 2, .int .i64 0]) ∧ Below w.heap.size w w' := by
  have i0 := idx_lit hb 0 (by omega) 92 0 rfl hc
  have hne := str_nonempty (xs := xs) (by omega)
  have hsz : (strOfNums xs).size = xs.length := strOfNums_size xs
  have hm63 : xs.length ≤ 1000000000 := hl
  have i1 := idx_lit hb 1 (by omega) 110 1 rfl hc1
  have hmk := fun w => mark_any x0 x1 x2 x3 110 w hw (by omega) (by omega)
  rw [letter_not x0 x1 x2 x3 (c := 110) rfl] at hmk
  have HM := Lib.hid hmk
  clear hc hc1 hmk
  have q0 : ∀ p : Bw (w.alloc (.cells #[.int .u64 x0, .int .u64 x1, .int .u64 x2, .int .u64 x3] 24)), p.val.cell? ⟨w.heap.size, 0, none⟩ = some (.int .u64 x0) := Bw.cell (by simp) (by simp [go_sem])
  have q1 : ∀ p : Bw (w.alloc (.cells #[.int .u64 x0, .int .u64 x1, .int .u64 x2, .int .u64 x3] 24)), p.val.cell? ⟨w.heap.size, 1, none⟩ = some (.int .u64 x1) := Bw.cell (by simp) (by simp [go_sem])
  have q2 : ∀ p : Bw (w.alloc (.cells #[.int .u64 x0, .int .u64 x1, .int .u64 x2, .int .u64 x3] 24)), p.val.cell? ⟨w.heap.size, 2, none⟩ = some (.int .u64 x2) := Bw.cell (by simp) (by simp [go_sem])
  have q3 : ∀ p : Bw (w.alloc (.cells #[.int .u64 x0, .int .u64 x1, .int .u64 x2, .int .u64 x3] 24)), p.val.cell? ⟨w.heap.size, 3, none⟩ = some (.int .u64 x3) := Bw.cell (by simp) (by simp [go_sem])
  go_enter Try.func20, Try.ntmps20
  go_wp2_with fail
  refine wp_region_bw (by kernel_rfl) (by kernel_rfl) ?_
  repeat (go_big_quiet_step ((fail)))
  refine wpQuiet_nil ?_
  rintro _ ⟨p, rfl⟩
  go_wp2_with (first | (go_at_call 34; refine (ib_any _ _ 0 _ (by decide +kernel)).mono ?_; rintro e w' ⟨rfl, rfl⟩) | (go_at_call 35; refine (HM.out _).mono ?_; rintro e w2 ⟨rfl, hb2⟩; have hz2 := hb2.size))
  go_ret3
  exact ⟨rfl, bl (bl (by go_grown) p.prop) hb2⟩

set_option maxHeartbeats 2000000 in
set_option maxRecDepth 100000 in
theorem rb_let_r (x0 x1 x2 x3 : Int) (xs : List Int) (w : World) (hb : By xs) (hw : Words x0 x1 x2 x3) (hl : xs.length ≤ 1000000000) (hl2 : 2 ≤ xs.length) (hc : xs.getD 0 0 = 92) (hc1 : xs.getD 1 0 = 114) :
    Calls Try.prog 20 #[.string (strOfNums xs), .agg #[.int .u64 x0, .int .u64 x1, .int .u64 x2, .int .u64 x3]] w fun e w' => e = .returned (.tuple #[.int .u8 13, .int .i64 2, .int .i64 0]) ∧ Below w.heap.size w w' := by
  have i0 := idx_lit hb 0 (by omega) 92 0 rfl hc
  have hne := str_nonempty (xs := xs) (by omega)
  have hsz : (strOfNums xs).size = xs.length := strOfNums_size xs
  have hm63 : xs.length ≤ 1000000000 := hl
  have i1 := idx_lit hb 1 (by omega) 114 1 rfl hc1
  have hmk := fun w => mark_any x0 x1 x2 x3 114 w hw (by omega) (by omega)
  rw [letter_not x0 x1 x2 x3 (c := 114) rfl] at hmk
  have HM := Lib.hid hmk
  clear hc hc1 hmk
  have q0 : ∀ p : Bw (w.alloc (.cells #[.int .u64 x0, .int .u64 x1, .int .u64 x2, .int .u64 x3] 24)), p.val.cell? ⟨w.heap.size, 0, none⟩ = some (.int .u64 x0) := Bw.cell (by simp) (by simp [go_sem])
  have q1 : ∀ p : Bw (w.alloc (.cells #[.int .u64 x0, .int .u64 x1, .int .u64 x2, .int .u64 x3] 24)), p.val.cell? ⟨w.heap.size, 1, none⟩ = some (.int .u64 x1) := Bw.cell (by simp) (by simp [go_sem])
  have q2 : ∀ p : Bw (w.alloc (.cells #[.int .u64 x0, .int .u64 x1, .int .u64 x2, .int .u64 x3] 24)), p.val.cell? ⟨w.heap.size, 2, none⟩ = some (.int .u64 x2) := Bw.cell (by simp) (by simp [go_sem])
  have q3 : ∀ p : Bw (w.alloc (.cells #[.int .u64 x0, .int .u64 x1, .int .u64 x2, .int .u64 x3] 24)), p.val.cell? ⟨w.heap.size, 3, none⟩ = some (.int .u64 x3) := Bw.cell (by simp) (by simp [go_sem])
  go_enter Try.func20, Try.ntmps20
  go_wp2_with fail
  refine wp_region_bw (by kernel_rfl) (by kernel_rfl) ?_
  repeat (go_big_quiet_step ((fail)))
  refine wpQuiet_nil ?_
  rintro _ ⟨p, rfl⟩
  go_wp2_with (first | (go_at_call 34; refine (ib_any _ _ 1 _ (by decide +kernel)).mono ?_; rintro e w' ⟨rfl, rfl⟩) | (go_at_call 35; refine (HM.out _).mono ?_; rintro e w2 ⟨rfl, hb2⟩; have hz2 := hb2.size))
  go_ret3
  exact ⟨rfl, bl (bl (by go_grown) p.prop) hb2⟩

set_option maxHeartbeats 2000000 in
set_option maxRecDepth 100000 in
theorem rb_let_t (x0 x1 x2 x3 : Int) (xs : List Int) (w : World) (hb : By xs) (hw : Words x0 x1 x2 x3) (hl : xs.length ≤ 1000000000) (hl2 : 2 ≤ xs.length) (hc : xs.getD 0 0 = 92) (hc1 : xs.getD 1 0 = 116) :
    Calls Try.prog 20 #[.string (strOfNums xs), .agg #[.int .u64 x0, .int .u64 x1, .int .u64 x2, .int .u64 x3]] w fun e w' => e = .returned (.tuple #[.int .u8 9, .int .i64 2, .int .i64 0]) ∧ Below w.heap.size w w' := by
  have i0 := idx_lit hb 0 (by omega) 92 0 rfl hc
  have hne := str_nonempty (xs := xs) (by omega)
  have hsz : (strOfNums xs).size = xs.length := strOfNums_size xs
  have hm63 : xs.length ≤ 1000000000 := hl
  have i1 := idx_lit hb 1 (by omega) 116 1 rfl hc1
  have hmk := fun w => mark_any x0 x1 x2 x3 116 w hw (by omega) (by omega)
  rw [letter_not x0 x1 x2 x3 (c := 116) rfl] at hmk
  have HM := Lib.hid hmk
  clear hc hc1 hmk
  have q0 : ∀ p : Bw (w.alloc (.cells #[.int .u64 x0, .int .u64 x1, .int .u64 x2, .int .u64 x3] 24)), p.val.cell? ⟨w.heap.size, 0, none⟩ = some (.int .u64 x0) := Bw.cell (by simp) (by simp [go_sem])
  have q1 : ∀ p : Bw (w.alloc (.cells #[.int .u64 x0, .int .u64 x1, .int .u64 x2, .int .u64 x3] 24)), p.val.cell? ⟨w.heap.size, 1, none⟩ = some (.int .u64 x1) := Bw.cell (by simp) (by simp [go_sem])
  have q2 : ∀ p : Bw (w.alloc (.cells #[.int .u64 x0, .int .u64 x1, .int .u64 x2, .int .u64 x3] 24)), p.val.cell? ⟨w.heap.size, 2, none⟩ = some (.int .u64 x2) := Bw.cell (by simp) (by simp [go_sem])
  have q3 : ∀ p : Bw (w.alloc (.cells #[.int .u64 x0, .int .u64 x1, .int .u64 x2, .int .u64 x3] 24)), p.val.cell? ⟨w.heap.size, 3, none⟩ = some (.int .u64 x3) := Bw.cell (by simp) (by simp [go_sem])
  go_enter Try.func20, Try.ntmps20
  go_wp2_with fail
  refine wp_region_bw (by kernel_rfl) (by kernel_rfl) ?_
  repeat (go_big_quiet_step ((fail)))
  refine wpQuiet_nil ?_
  rintro _ ⟨p, rfl⟩
  go_wp2_with (first | (go_at_call 34; refine (ib_any _ _ 2 _ (by decide +kernel)).mono ?_; rintro e w' ⟨rfl, rfl⟩) | (go_at_call 35; refine (HM.out _).mono ?_; rintro e w2 ⟨rfl, hb2⟩; have hz2 := hb2.size))
  go_ret3
  exact ⟨rfl, bl (bl (by go_grown) p.prop) hb2⟩

set_option maxHeartbeats 2000000 in
set_option maxRecDepth 100000 in
/-- A backslash, and no form behind it. -/
theorem rb_none (x0 x1 x2 x3 : Int) (xs : List Int) (w : World) (hb : By xs) (c : Int) (hw : Words x0 x1 x2 x3) (hl : xs.length ≤ 1000000000) (hl2 : 2 ≤ xs.length) (hc : xs.getD 0 0 = 92) (hc1 : xs.getD 1 0 = c) (hcr : 0 ≤ c ∧ c ≤ 255) (h92 : c ≠ 92) (hm : mkd x0 x1 x2 x3 c = false) (hn : c ≠ 110 ∧ c ≠ 114 ∧ c ≠ 116) (h120 : c ≠ 120) :
    Calls Try.prog 20 #[.string (strOfNums xs), .agg #[.int .u64 x0, .int .u64 x1, .int .u64 x2, .int .u64 x3]] w fun e w' => e = .returned (.tuple #[.int .u8 0, .int .i64 0, .int .i64 20]) ∧ Below w.heap.size w w' := by
  have i0 := idx_lit hb 0 (by omega) 92 0 rfl hc
  have hne := str_nonempty (xs := xs) (by omega)
  have hsz : (strOfNums xs).size = xs.length := strOfNums_size xs
  have hm63 : xs.length ≤ 1000000000 := hl
  have i1 := idx_lit hb 1 (by omega) c 1 rfl hc1
  have hmk := fun w => mark_any x0 x1 x2 x3 c w hw hcr.1 hcr.2
  have HI := Lib.hid (lets_none c hcr.1 hcr.2 hn.1 hn.2.1 hn.2.2)
  have b92 : (c == 92) = false := beq_eq_false_iff_ne.2 h92
  have b120 : (c == 120) = false := beq_eq_false_iff_ne.2 h120
  rw [hm] at hmk
  have HM := Lib.hid hmk
  clear hc hc1 hmk hm hn h92 h120
  have q0 : ∀ p : Bw (w.alloc (.cells #[.int .u64 x0, .int .u64 x1, .int .u64 x2, .int .u64 x3] 24)), p.val.cell? ⟨w.heap.size, 0, none⟩ = some (.int .u64 x0) := Bw.cell (by simp) (by simp [go_sem])
  have q1 : ∀ p : Bw (w.alloc (.cells #[.int .u64 x0, .int .u64 x1, .int .u64 x2, .int .u64 x3] 24)), p.val.cell? ⟨w.heap.size, 1, none⟩ = some (.int .u64 x1) := Bw.cell (by simp) (by simp [go_sem])
  have q2 : ∀ p : Bw (w.alloc (.cells #[.int .u64 x0, .int .u64 x1, .int .u64 x2, .int .u64 x3] 24)), p.val.cell? ⟨w.heap.size, 2, none⟩ = some (.int .u64 x2) := Bw.cell (by simp) (by simp [go_sem])
  have q3 : ∀ p : Bw (w.alloc (.cells #[.int .u64 x0, .int .u64 x1, .int .u64 x2, .int .u64 x3] 24)), p.val.cell? ⟨w.heap.size, 3, none⟩ = some (.int .u64 x3) := Bw.cell (by simp) (by simp [go_sem])
  go_enter Try.func20, Try.ntmps20
  go_wp2_with fail
  refine wp_region_bw (by kernel_rfl) (by kernel_rfl) ?_
  repeat (go_big_quiet_step ((fail)))
  refine wpQuiet_nil ?_
  rintro _ ⟨p, rfl⟩
  go_wp2_with (first | (go_at_call 34; refine (ib_any _ _ _ _ HI.out).mono ?_; rintro e w' ⟨rfl, rfl⟩) | (go_at_call 35; refine (HM.out _).mono ?_; rintro e w2 ⟨rfl, hb2⟩; have hz2 := hb2.size))
  go_ret3
  exact ⟨rfl, bl (bl (by go_grown) p.prop) hb2⟩

set_option maxHeartbeats 2000000 in
set_option maxRecDepth 100000 in
/-- A backslash, an x, and no two digits behind them. -/
theorem rb_nohex (x0 x1 x2 x3 : Int) (xs : List Int) (w : World) (hb : By xs) (hw : Words x0 x1 x2 x3) (hl : xs.length ≤ 1000000000) (hl2 : 2 ≤ xs.length) (hc : xs.getD 0 0 = 92) (hc1 : xs.getD 1 0 = 120) (d f : Int) (hd : xs.getD 2 0 = d) (hf : xs.getD 3 0 = f) (hx : xs.length < 4 ∨ 16 ≤ nib d ∨ 16 ≤ nib f) :
    Calls Try.prog 20 #[.string (strOfNums xs), .agg #[.int .u64 x0, .int .u64 x1, .int .u64 x2, .int .u64 x3]] w fun e w' => e = .returned (.tuple #[.int .u8 0, .int .i64 0, .int .i64 20]) ∧ Below w.heap.size w w' := by
  have i0 := idx_lit hb 0 (by omega) 92 0 rfl hc
  have hne := str_nonempty (xs := xs) (by omega)
  have hsz : (strOfNums xs).size = xs.length := strOfNums_size xs
  have hm63 : xs.length ≤ 1000000000 := hl
  have i1 := idx_lit hb 1 (by omega) 120 1 rfl hc1
  have hmk := fun w => mark_any x0 x1 x2 x3 120 w hw (by omega) (by omega)
  rw [letter_not x0 x1 x2 x3 (c := 120) rfl] at hmk
  have HM := Lib.hid hmk
  have HI := Lib.hid (lets_none 120 (by omega) (by omega) (by omega) (by omega) (by omega))
  have rd : 0 ≤ d ∧ d ≤ 255 := hd ▸ by_getD hb 2
  have re : 0 ≤ f ∧ f ≤ 255 := hf ▸ by_getD hb 3
  have nd := fun w => nib_any d w rd.1 rd.2
  have ne := fun w => nib_any f w re.1 re.2
  have ND := Lib.hid nd
  have NE := Lib.hid ne
  clear hc hc1 hmk nd ne rd re
  have q0 : ∀ p : Bw (w.alloc (.cells #[.int .u64 x0, .int .u64 x1, .int .u64 x2, .int .u64 x3] 24)), p.val.cell? ⟨w.heap.size, 0, none⟩ = some (.int .u64 x0) := Bw.cell (by simp) (by simp [go_sem])
  have q1 : ∀ p : Bw (w.alloc (.cells #[.int .u64 x0, .int .u64 x1, .int .u64 x2, .int .u64 x3] 24)), p.val.cell? ⟨w.heap.size, 1, none⟩ = some (.int .u64 x1) := Bw.cell (by simp) (by simp [go_sem])
  have q2 : ∀ p : Bw (w.alloc (.cells #[.int .u64 x0, .int .u64 x1, .int .u64 x2, .int .u64 x3] 24)), p.val.cell? ⟨w.heap.size, 2, none⟩ = some (.int .u64 x2) := Bw.cell (by simp) (by simp [go_sem])
  have q3 : ∀ p : Bw (w.alloc (.cells #[.int .u64 x0, .int .u64 x1, .int .u64 x2, .int .u64 x3] 24)), p.val.cell? ⟨w.heap.size, 3, none⟩ = some (.int .u64 x3) := Bw.cell (by simp) (by simp [go_sem])
  by_cases h4 : xs.length < 4
  · have h3 : ¬ (3 : Int) < (xs.length : Int) := by omega
    go_enter Try.func20, Try.ntmps20
    go_wp2_with fail
    refine wp_region_bw (by kernel_rfl) (by kernel_rfl) ?_
    repeat (go_big_quiet_step ((fail)))
    refine wpQuiet_nil ?_
    rintro _ ⟨p, rfl⟩
    go_wp2_with (first | (go_at_call 34; refine (ib_any _ _ _ _ HI.out).mono ?_; rintro e w' ⟨rfl, rfl⟩) | (go_at_call 35; refine (HM.out _).mono ?_; rintro e w2 ⟨rfl, hb2⟩; have hz2 := hb2.size) | (go_at_call_of 37 (Value.int IntKind.u8 d); refine (ND.out _).mono ?_; rintro e w' ⟨rfl, rfl⟩) | (go_at_call_of 37 (Value.int IntKind.u8 f); refine (NE.out _).mono ?_; rintro e w' ⟨rfl, rfl⟩))
    go_ret3
    exact ⟨rfl, bl (bl (by go_grown) p.prop) hb2⟩
  · have h3 : (3 : Int) < (xs.length : Int) := by omega
    have i2 := idx_lit hb 2 (by omega) d 2 rfl hd
    have i3 := idx_lit hb 3 (by omega) f 3 rfl hf
    clear hd hf
    by_cases hnd : nib d < 16
    · have hnf : ¬ nib f < 16 := by omega
      clear hx
      go_enter Try.func20, Try.ntmps20
      go_wp2_with fail
      refine wp_region_bw (by kernel_rfl) (by kernel_rfl) ?_
      repeat (go_big_quiet_step ((fail)))
      refine wpQuiet_nil ?_
      rintro _ ⟨p, rfl⟩
      go_wp2_with (first | (go_at_call 34; refine (ib_any _ _ _ _ HI.out).mono ?_; rintro e w' ⟨rfl, rfl⟩) | (go_at_call 35; refine (HM.out _).mono ?_; rintro e w2 ⟨rfl, hb2⟩; have hz2 := hb2.size) | (go_at_call_of 37 (Value.int IntKind.u8 d); refine (ND.out _).mono ?_; rintro e w' ⟨rfl, rfl⟩) | (go_at_call_of 37 (Value.int IntKind.u8 f); refine (NE.out _).mono ?_; rintro e w' ⟨rfl, rfl⟩))
      go_ret3
      exact ⟨rfl, bl (bl (by go_grown) p.prop) hb2⟩
    · clear hx
      go_enter Try.func20, Try.ntmps20
      go_wp2_with fail
      refine wp_region_bw (by kernel_rfl) (by kernel_rfl) ?_
      repeat (go_big_quiet_step ((fail)))
      refine wpQuiet_nil ?_
      rintro _ ⟨p, rfl⟩
      go_wp2_with (first | (go_at_call 34; refine (ib_any _ _ _ _ HI.out).mono ?_; rintro e w' ⟨rfl, rfl⟩) | (go_at_call 35; refine (HM.out _).mono ?_; rintro e w2 ⟨rfl, hb2⟩; have hz2 := hb2.size) | (go_at_call_of 37 (Value.int IntKind.u8 d); refine (ND.out _).mono ?_; rintro e w' ⟨rfl, rfl⟩) | (go_at_call_of 37 (Value.int IntKind.u8 f); refine (NE.out _).mono ?_; rintro e w' ⟨rfl, rfl⟩))
      go_ret3
      exact ⟨rfl, bl (bl (by go_grown) p.prop) hb2⟩

end Go.Proofs.Ytdgihlelopfdeaa
