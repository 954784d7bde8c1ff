/-
  quote.ReadByte and nibble.
-/
import Derived.Test.YtdgihlelopfdeaaBytes
namespace Go.Proofs.Ytdgihlelopfdeaa
open Go.RowKit Q

def nib (c : Int) : Int := if 48 ≤ c ∧ c ≤ 57 then c - 48 else if 65 ≤ c ∧ c ≤ 70 then c - 55 else if 97 ≤ c ∧ c ≤ 102 then c - 87 else 16
def hexs : ByteArray := ⟨#[48, 49, 50, 51, 52, 53, 54, 55, 56, 57, 97, 98, 99, 100, 101, 102]⟩
theorem nib_eq (c : Int) (h0 : 0 ≤ c) (h1 : c ≤ 255) : (if 48 ≤ c ∧ c ≤ 57 then c - 48 else if 10 ≤ Lib.indexByte hexs.data.toList (bits .or .u8 c 32).toNat.toUInt8 ∧ 65 ≤ c then Lib.indexByte hexs.data.toList (bits .or .u8 c 32).toNat.toUInt8 else 16) = nib c := by
  obtain ⟨n, rfl⟩ := Int.eq_ofNat_of_zero_le h0
  have H : ∀ m : Fin 256, (if 48 ≤ ((m.val : Nat) : Int) ∧ ((m.val : Nat) : Int) ≤ 57 then ((m.val : Nat) : Int) - 48 else if 10 ≤ Lib.indexByte hexs.data.toList (bits .or .u8 ((m.val : Nat) : Int) 32).toNat.toUInt8 ∧ 65 ≤ ((m.val : Nat) : Int) then Lib.indexByte hexs.data.toList (bits .or .u8 ((m.val : Nat) : Int) 32).toNat.toUInt8 else 16) = nib ((m.val : Nat) : Int) := by decide +kernel
  exact H ⟨n, by omega⟩
theorem nib_range (c : Int) : 0 ≤ nib c ∧ nib c ≤ 16 := by unfold nib; split; omega; split; omega; split <;> omega

set_option maxHeartbeats 800000 in
theorem nib_any (c : Int) (w : World) (h0 : 0 ≤ c) (h1 : c ≤ 255) : Calls Try.prog 37 #[.int .u8 c] w fun e w' => e = .returned (.int .i64 (nib c)) ∧ w = w' := by
  have E := Lib.hid (nib_eq c h0 h1)
  obtain ⟨r, hr⟩ : ∃ r, Lib.indexByte hexs.data.toList (bits .or .u8 c 32).toNat.toUInt8 = r := ⟨_, rfl⟩
  rw [hr] at E
  have hib := fun w => ib_any hexs (bits .or .u8 c 32) r w hr
  have HI := Lib.hid hib
  clear hib hr
  by_cases d : 48 ≤ c ∧ c ≤ 57
  · have F : Hid (c - 48 = nib c) := by have := E.out; rw [if_pos d] at this; exact this
    obtain ⟨d0, d1⟩ := d
    go_enter Try.func37, Try.ntmps37
    go_wp2_with (go_at_call 34; refine (HI.out _).mono ?_; rintro e w' ⟨rfl, rfl⟩)
    go_ret
    exact ⟨ret_int F.out, rfl⟩
  · by_cases f : 10 ≤ r ∧ 65 ≤ c
    · have F : Hid (r = nib c) := by have := E.out; rw [if_neg d, if_pos f] at this; exact this
      obtain ⟨f0, f1⟩ := f
      have d1 : ¬ c ≤ 57 := by omega
      clear d
      go_enter Try.func37, Try.ntmps37
      go_wp2_with (go_at_call 34; refine (HI.out _).mono ?_; rintro e w' ⟨rfl, rfl⟩)
      go_ret
      exact ⟨ret_int F.out, rfl⟩
    · have F : Hid (16 = nib c) := by have := E.out; rw [if_neg d, if_neg f] at this; exact this
      by_cases d0 : 48 ≤ c
      · have d1 : ¬ c ≤ 57 := by omega
        by_cases f0 : 10 ≤ r
        · have f1 : ¬ 65 ≤ c := by omega
          clear d f
          go_enter Try.func37, Try.ntmps37
          go_wp2_with (go_at_call 34; refine (HI.out _).mono ?_; rintro e w' ⟨rfl, rfl⟩)
          go_ret
          exact ⟨ret_int F.out, rfl⟩
        · clear d f
          go_enter Try.func37, Try.ntmps37
          go_wp2_with (go_at_call 34; refine (HI.out _).mono ?_; rintro e w' ⟨rfl, rfl⟩)
          go_ret
          exact ⟨ret_int F.out, rfl⟩
      · have f1 : ¬ 65 ≤ c := by omega
        by_cases f0 : 10 ≤ r
        all_goals
          clear d f
          go_enter Try.func37, Try.ntmps37
          go_wp2_with (go_at_call 34; refine (HI.out _).mono ?_; rintro e w' ⟨rfl, rfl⟩)
          go_ret
          exact ⟨ret_int F.out, rfl⟩

/-- What ReadByte answers: the byte, how long its form is, the error. -/
def rb (m : Int → Bool) : List Int → Int × Int × Int
  | [] => (0, 0, 20)
  | c0 :: t =>
    if c0 ≠ 92 then (if 32 ≤ c0 ∧ c0 ≤ 126 ∧ m c0 = false then (c0, 1, 0) else (0, 0, 20))
    else match t with
      | [] => (0, 0, 20)
      | c1 :: u =>
        if c1 = 92 ∨ m c1 = true then (c1, 2, 0)
        else if c1 = 110 then (10, 2, 0) else if c1 = 114 then (13, 2, 0) else if c1 = 116 then (9, 2, 0)
        else if c1 = 120 then (match u with
          | d :: e :: _ => if nib d < 16 ∧ nib e < 16 then (16 * nib d + nib e, 4, 0) else (0, 0, 20)
          | _ => (0, 0, 20))
        else (0, 0, 20)

theorem idx_lit {xs : List Int} (hb : By xs) (k : Nat) (hk : k < xs.length) (c i : Int) (hi : i = (k : Int)) (hc : xs.getD k 0 = c) : ∀ w : World,
    (Instr.index 9 (.string (strOfNums xs)) (.int .i64 i)).run Try.prog w = .ok (.int .u8 c) w := fun w => by rw [hi, ← hc]; exact idx_any hb k hk w

theorem str_nonempty {xs : List Int} (h : 0 < xs.length) : (strOfNums xs).toList.isEmpty = false := by
  rw [ByteArray.toList_eq]
  cases xs with
  | nil => simp at h
  | cons a l => simp [strOfNums]

set_option maxHeartbeats 800000 in
theorem rb_empty (V : Array Value) (w : World) : Calls Try.prog 20 #[.string (strOfNums []), .agg V] w fun e w' => e = .returned (.tuple #[.int .u8 0, .int .i64 0, .int .i64 20]) ∧ Below w.heap.size w w' := by
  have hne : (strOfNums []).toList.isEmpty = true := by rw [ByteArray.toList_eq]; rfl
  go_enter Try.func20, Try.ntmps20
  go_wp2_with fail
  go_ret3
  exact ⟨rfl, by go_grown⟩

set_option maxHeartbeats 800000 in
theorem rb_raw (x0 x1 x2 x3 : Int) (xs : List Int) (w : World) (hb : By xs) (c : Int) (hw : Words x0 x1 x2 x3) (hl : 0 < xs.length) (hc : xs.getD 0 0 = c) (h92 : c ≠ 92) (h0 : 32 ≤ c) (h1 : c ≤ 126) (hm : mkd x0 x1 x2 x3 c = false) :
    Calls Try.prog 20 #[.string (strOfNums xs), .agg #[.int .u64 x0, .int .u64 x1, .int .u64 x2, .int .u64 x3]] w fun e w' => e = .returned (.tuple #[.int .u8 c, .int .i64 1, .int .i64 0]) ∧ Below w.heap.size w w' := by
  have hmk := fun w => mark_any x0 x1 x2 x3 c w hw (by omega) (by omega)
  rw [hm] at hmk
  have HM := Lib.hid hmk
  have i0 := idx_lit hb 0 hl c 0 rfl hc
  have hb0 : (c != 92) = true := by simpa using h92
  have hne := str_nonempty hl
  clear hm hmk hc h92
  have q0 : ∀ p : Bw (w.alloc (.cells #[.int .u64 x0, .int .u64 x1, .int .u64 x2, .int .u64 x3] 24)), p.val.cell? ⟨w.heap.size, 0, none⟩ = some (.int .u64 x0) := Bw.cell (by simp) (by simp [go_sem])
  have q1 : ∀ p : Bw (w.alloc (.cells #[.int .u64 x0, .int .u64 x1, .int .u64 x2, .int .u64 x3] 24)), p.val.cell? ⟨w.heap.size, 1, none⟩ = some (.int .u64 x1) := Bw.cell (by simp) (by simp [go_sem])
  have q2 : ∀ p : Bw (w.alloc (.cells #[.int .u64 x0, .int .u64 x1, .int .u64 x2, .int .u64 x3] 24)), p.val.cell? ⟨w.heap.size, 2, none⟩ = some (.int .u64 x2) := Bw.cell (by simp) (by simp [go_sem])
  have q3 : ∀ p : Bw (w.alloc (.cells #[.int .u64 x0, .int .u64 x1, .int .u64 x2, .int .u64 x3] 24)), p.val.cell? ⟨w.heap.size, 3, none⟩ = some (.int .u64 x3) := Bw.cell (by simp) (by simp [go_sem])
  go_enter Try.func20, Try.ntmps20
  go_wp2_with fail
  refine wp_region_bw (by kernel_rfl) (by kernel_rfl) ?_
  repeat (go_big_quiet_step ((go_at_call 35; exact calls_bw (HM.out _))))
  refine wpQuiet_nil ?_
  rintro _ ⟨p, rfl⟩
  go_wp2_with fail
  go_ret3
  exact ⟨rfl, bl (by go_grown) p.prop⟩

set_option maxHeartbeats 1600000 in
/-- No byte: the first one is not the backslash, and does not stand for itself. -/
theorem rb_bad0 (x0 x1 x2 x3 : Int) (xs : List Int) (w : World) (hb : By xs) (c : Int) (hw : Words x0 x1 x2 x3) (hl : 0 < xs.length) (hc : xs.getD 0 0 = c) (h92 : c ≠ 92) (hcr : 0 ≤ c ∧ c ≤ 255) (hx : c < 32 ∨ 126 < c ∨ mkd x0 x1 x2 x3 c = true) :
    Calls Try.prog 20 #[.string (strOfNums xs), .agg #[.int .u64 x0, .int .u64 x1, .int .u64 x2, .int .u64 x3]] w fun e w' => e = .returned (.tuple #[.int .u8 0, .int .i64 0, .int .i64 20]) ∧ Below w.heap.size w w' := by
  have hmk := fun w => mark_any x0 x1 x2 x3 c w hw hcr.1 hcr.2
  have i0 := idx_lit hb 0 hl c 0 rfl hc
  have hb0 : (c != 92) = true := by simpa using h92
  have hne := str_nonempty hl
  clear hc h92
  have q0 : ∀ p : Bw (w.alloc (.cells #[.int .u64 x0, .int .u64 x1, .int .u64 x2, .int .u64 x3] 24)), p.val.cell? ⟨w.heap.size, 0, none⟩ = some (.int .u64 x0) := Bw.cell (by simp) (by simp [go_sem])
  have q1 : ∀ p : Bw (w.alloc (.cells #[.int .u64 x0, .int .u64 x1, .int .u64 x2, .int .u64 x3] 24)), p.val.cell? ⟨w.heap.size, 1, none⟩ = some (.int .u64 x1) := Bw.cell (by simp) (by simp [go_sem])
  have q2 : ∀ p : Bw (w.alloc (.cells #[.int .u64 x0, .int .u64 x1, .int .u64 x2, .int .u64 x3] 24)), p.val.cell? ⟨w.heap.size, 2, none⟩ = some (.int .u64 x2) := Bw.cell (by simp) (by simp [go_sem])
  have q3 : ∀ p : Bw (w.alloc (.cells #[.int .u64 x0, .int .u64 x1, .int .u64 x2, .int .u64 x3] 24)), p.val.cell? ⟨w.heap.size, 3, none⟩ = some (.int .u64 x3) := Bw.cell (by simp) (by simp [go_sem])
  by_cases h0 : c < 32
  · have d0 : decide (32 ≤ c) = false := by rw [decide_eq_false_iff_not]; omega
    go_enter Try.func20, Try.ntmps20
    go_wp2_with fail
    refine wp_region_bw (by kernel_rfl) (by kernel_rfl) ?_
    repeat (go_big_quiet_step ((fail)))
    refine wpQuiet_nil ?_
    rintro _ ⟨p, rfl⟩
    go_wp2_with fail
    go_ret3
    exact ⟨rfl, bl (by go_grown) p.prop⟩
  · by_cases h1 : 126 < c
    · have d0 : decide (32 ≤ c) = true := by rw [decide_eq_true_eq]; omega
      have d1 : decide (c ≤ 126) = false := by rw [decide_eq_false_iff_not]; omega
      go_enter Try.func20, Try.ntmps20
      go_wp2_with fail
      refine wp_region_bw (by kernel_rfl) (by kernel_rfl) ?_
      repeat (go_big_quiet_step ((fail)))
      refine wpQuiet_nil ?_
      rintro _ ⟨p, rfl⟩
      go_wp2_with fail
      go_ret3
      exact ⟨rfl, bl (by go_grown) p.prop⟩
    · have hm : mkd x0 x1 x2 x3 c = true := by rcases hx with h | h | h; omega; omega; exact h
      rw [hm] at hmk
      have HM := Lib.hid hmk
      clear hmk hm hx
      have d0 : decide (32 ≤ c) = true := by rw [decide_eq_true_eq]; omega
      have d1 : decide (c ≤ 126) = true := by rw [decide_eq_true_eq]; omega
      go_enter Try.func20, Try.ntmps20
      go_wp2_with fail
      refine wp_region_bw (by kernel_rfl) (by kernel_rfl) ?_
      repeat (go_big_quiet_step ((go_at_call 35; exact calls_bw (HM.out _))))
      refine wpQuiet_nil ?_
      rintro _ ⟨p, rfl⟩
      go_wp2_with fail
      go_ret3
      exact ⟨rfl, bl (by go_grown) p.prop⟩
end Go.Proofs.Ytdgihlelopfdeaa
