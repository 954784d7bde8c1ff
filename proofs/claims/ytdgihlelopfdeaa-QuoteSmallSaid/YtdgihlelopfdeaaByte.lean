/-
  quote.Byte: the form of a byte.
-/
import Derived.Test.YtdgihlelopfdeaaBuilder
namespace Go.Proofs.Ytdgihlelopfdeaa
open Go.RowKit Q

theorem ib_any (s : ByteArray) (c r : Int) (w : World) (h : Lib.indexByte s.data.toList c.toNat.toUInt8 = r) :
    Calls Try.prog 34 #[.string s, .int .u8 c] w fun e w' => e = .returned (.int .i64 r) ∧ w = w' := by
  have := Try.strings_IndexByte s c w
  rw [h] at this
  exact this.mono fun e w' ⟨a, b⟩ => ⟨a, b.symm⟩
theorem short_none (c : Int) (h0 : 0 ≤ c) (h1 : c ≤ 255) (a : c ≠ 10) (b : c ≠ 13) (d : c ≠ 9) : Lib.indexByte (⟨#[10, 13, 9]⟩ : ByteArray).data.toList c.toNat.toUInt8 = -1 := by
  obtain ⟨n, rfl⟩ := Int.eq_ofNat_of_zero_le h0
  have H : ∀ m : Fin 256, m.val ≠ 10 → m.val ≠ 13 → m.val ≠ 9 → Lib.indexByte (⟨#[10, 13, 9]⟩ : ByteArray).data.toList m.val.toUInt8 = -1 := by decide +kernel
  exact H ⟨n, by omega⟩ (fun e => a (by dsimp only at e; omega)) (fun e => b (by dsimp only at e; omega)) (fun e => d (by dsimp only at e; omega))

theorem hex_index (n : Int) (h0 : 0 ≤ n) (h1 : n < 16) (w : World) :
    (Instr.index 9 (.string ⟨#[48, 49, 50, 51, 52, 53, 54, 55, 56, 57, 97, 98, 99, 100, 101, 102]⟩) (.int .u8 n)).run Try.prog w = .ok (.int .u8 (hexd n)) w := by
  have h : n = 0 ∨ n = 1 ∨ n = 2 ∨ n = 3 ∨ n = 4 ∨ n = 5 ∨ n = 6 ∨ n = 7 ∨ n = 8 ∨ n = 9 ∨ n = 10 ∨ n = 11 ∨ n = 12 ∨ n = 13 ∨ n = 14 ∨ n = 15 := by omega
  rcases h with rfl | rfl | rfl | rfl | rfl | rfl | rfl | rfl | rfl | rfl | rfl | rfl | rfl | rfl | rfl | rfl
  all_goals rfl

/-- A slice of bytes in a block of the call's own, made a string. -/
theorem conv_blk {w : World} {b t : Nat} (xs : List Int) (n c : Nat) (hn : xs.length = n) (h : Blk w b t (xs.map (Value.int .u8)).toArray) :
    (convert 33 9 (.slice (some ⟨b, 0, none⟩) n c)).run Try.prog w = .ok (.string (strOfNums xs)) w := by
  refine run_convert_bytes_arg w 33 5 Try.underlying33 Try.underlying5 b 0 n c xs hn (fun i hi => ?_) 9 Try.underlying9
  have hc := h.cell (0 + i)
  rw [hc, List.getElem?_toArray, List.getElem?_map, Nat.zero_add, List.getD_eq_getElem?_getD, List.getElem?_eq_getElem (by omega)]
  rfl

set_option maxHeartbeats 800000 in
theorem byte_10 (V : Array Value) (w : World) : Calls Try.prog 14 #[.int .u8 10, .agg V] w fun e w' => e = .returned (.string (strOfNums [92, 110])) ∧ Below w.heap.size w w' := by
  go_enter Try.func14, Try.ntmps14
  go_wp2_with (go_at_call 34; refine (ib_any _ _ 0 _ (by decide +kernel)).mono ?_; rintro e w' ⟨rfl, rfl⟩)
  go_ret
  exact ⟨rfl, by go_grown⟩
set_option maxHeartbeats 800000 in
theorem byte_13 (V : Array Value) (w : World) : Calls Try.prog 14 #[.int .u8 13, .agg V] w fun e w' => e = .returned (.string (strOfNums [92, 114])) ∧ Below w.heap.size w w' := by
  go_enter Try.func14, Try.ntmps14
  go_wp2_with (go_at_call 34; refine (ib_any _ _ 1 _ (by decide +kernel)).mono ?_; rintro e w' ⟨rfl, rfl⟩)
  go_ret
  exact ⟨rfl, by go_grown⟩
set_option maxHeartbeats 800000 in
theorem byte_9 (V : Array Value) (w : World) : Calls Try.prog 14 #[.int .u8 9, .agg V] w fun e w' => e = .returned (.string (strOfNums [92, 116])) ∧ Below w.heap.size w w' := by
  go_enter Try.func14, Try.ntmps14
  go_wp2_with (go_at_call 34; refine (ib_any _ _ 2 _ (by decide +kernel)).mono ?_; rintro e w' ⟨rfl, rfl⟩)
  go_ret
  exact ⟨rfl, by go_grown⟩

set_option maxHeartbeats 800000 in
theorem byte_hex (x0 x1 x2 x3 c : Int) (w : World) (h0 : 0 ≤ c) (h1 : c ≤ 255) (a : c ≠ 10) (b : c ≠ 13) (d : c ≠ 9) (hx : c < 32 ∨ 126 < c) :
    Calls Try.prog 14 #[.int .u8 c, .agg #[.int .u64 x0, .int .u64 x1, .int .u64 x2, .int .u64 x3]] w fun e w' => e = .returned (.string (strOfNums [92, 120, hexd (c / 16), hexd (c % 16)])) ∧ Below w.heap.size w w' := by
  have HI := Lib.hid (short_none c h0 h1 a b d)
  clear a b d
  have p0 : 0 ≤ c / 16 := by omega
  have p1 : c / 16 < 16 := by omega
  have p2 : 0 ≤ c % 16 := by omega
  have p3 : c % 16 < 16 := by omega
  have i1 := hex_index (c / 16) p0 p1
  have i2 := hex_index (c % 16) p2 p3
  by_cases hk : c < 32
  · go_enter Try.func14, Try.ntmps14
    go_wp2_with (go_at_call 34; refine (ib_any _ _ _ _ HI.out).mono ?_; rintro e w' ⟨rfl, rfl⟩)
    go_region
    go_wp2_with fail
    rw [conv_blk (b := w.heap.size + 1) (t := 71) [92, 120, hexd (c / 16), hexd (c % 16)] 4 4 rfl (by simpa using (Blk.new (w.alloc _) 71 _).drew)]
    simp only [Result.andThen]
    rw [Oper.upon_value]
    go_wp2_with fail
    go_ret
    exact ⟨rfl, by go_grown⟩
  · have hk2 : 126 < c := by omega
    go_enter Try.func14, Try.ntmps14
    go_wp2_with (go_at_call 34; refine (ib_any _ _ _ _ HI.out).mono ?_; rintro e w' ⟨rfl, rfl⟩)
    go_region
    go_wp2_with fail
    rw [conv_blk (b := w.heap.size + 1) (t := 71) [92, 120, hexd (c / 16), hexd (c % 16)] 4 4 rfl (by simpa using (Blk.new (w.alloc _) 71 _).drew)]
    simp only [Result.andThen]
    rw [Oper.upon_value]
    go_wp2_with fail
    go_ret
    exact ⟨rfl, by go_grown⟩

theorem mk_bool (m : Bool) : m = true ∨ m = false := by cases m <;> simp

set_option maxHeartbeats 800000 in
theorem byte_esc (x0 x1 x2 x3 c : Int) (w : World) (hw : Words x0 x1 x2 x3) (h0 : 32 ≤ c) (h1 : c ≤ 126) (hx : c = 92 ∨ mkd x0 x1 x2 x3 c = true) :
    Calls Try.prog 14 #[.int .u8 c, .agg #[.int .u64 x0, .int .u64 x1, .int .u64 x2, .int .u64 x3]] w fun e w' => e = .returned (.string (strOfNums [92, c])) ∧ Below w.heap.size w w' := by
  have HI := Lib.hid (short_none c (by omega) (by omega) (by omega) (by omega) (by omega))
  have hmk := fun w => mark_any x0 x1 x2 x3 c w hw (by omega) (by omega)
  by_cases h92 : c = 92
  · have hb : (c == 92) = true := beq_iff_eq.2 h92
    clear h92 hmk hx
    go_enter Try.func14, Try.ntmps14
    go_wp2_with (go_at_call 34; refine (ib_any _ _ _ _ HI.out).mono ?_; rintro e w' ⟨rfl, rfl⟩)
    rw [conv_blk (b := w.heap.size + 1) (t := 5) [92, c] 2 2 rfl (by simpa using (Blk.new (w.alloc _) 5 _))]
    simp only [Result.andThen]
    rw [Oper.upon_value]
    go_wp2_with fail
    go_ret
    exact ⟨rfl, by go_grown⟩
  · have hm : mkd x0 x1 x2 x3 c = true := by rcases hx with h | h; exact absurd h h92; exact h
    rw [hm] at hmk
    have HM := Lib.hid hmk
    have hb : (c == 92) = false := beq_eq_false_iff_ne.2 h92
    clear h92 hmk hx hm
    go_enter Try.func14, Try.ntmps14
    go_wp2_with (first | (go_at_call 34; refine (ib_any _ _ _ _ HI.out).mono ?_; rintro e w' ⟨rfl, rfl⟩) | (go_at_call 35; refine (HM.out _).mono ?_; rintro e w1 ⟨rfl, hb1⟩; have hz1 := hb1.size))
    rw [conv_blk (b := w1.heap.size) (t := 5) [92, c] 2 2 rfl (show Blk (w1.alloc (.cells #[.int .u8 92, .int .u8 c] 5)) w1.heap.size 5 ([92, c].map (Value.int .u8)).toArray from Blk.new w1 5 _)]
    simp only [Result.andThen]
    rw [Oper.upon_value]
    go_wp2_with fail
    go_ret
    exact ⟨rfl, (bl (by go_grown) hb1).alloc (by simp at hz1; omega) _⟩

set_option maxHeartbeats 800000 in
theorem byte_raw (x0 x1 x2 x3 c : Int) (w : World) (hw : Words x0 x1 x2 x3) (h0 : 32 ≤ c) (h1 : c ≤ 126) (h92 : c ≠ 92) (hm : mkd x0 x1 x2 x3 c = false) :
    Calls Try.prog 14 #[.int .u8 c, .agg #[.int .u64 x0, .int .u64 x1, .int .u64 x2, .int .u64 x3]] w fun e w' => e = .returned (.string (strOfNums [c])) ∧ Below w.heap.size w w' := by
  have HI := Lib.hid (short_none c (by omega) (by omega) (by omega) (by omega) (by omega))
  have hmk := fun w => mark_any x0 x1 x2 x3 c w hw (by omega) (by omega)
  rw [hm] at hmk
  have HM := Lib.hid hmk
  have hb : (c == 92) = false := beq_eq_false_iff_ne.2 h92
  clear h92 hmk hm
  go_enter Try.func14, Try.ntmps14
  go_wp2_with (first | (go_at_call 34; refine (ib_any _ _ _ _ HI.out).mono ?_; rintro e w' ⟨rfl, rfl⟩) | (go_at_call 35; refine (HM.out _).mono ?_; rintro e w1 ⟨rfl, hb1⟩; have hz1 := hb1.size))
  rw [conv_blk (b := w1.heap.size) (t := 5) [c] 1 1 rfl (show Blk (w1.alloc (.cells #[.int .u8 c] 5)) w1.heap.size 5 ([c].map (Value.int .u8)).toArray from Blk.new w1 5 _)]
  simp only [Result.andThen]
  rw [Oper.upon_value]
  go_wp2_with fail
  go_ret
  exact ⟨rfl, (bl (by go_grown) hb1).alloc (by simp at hz1; omega) _⟩

/-- quote.Byte. -/
theorem byte_any (x0 x1 x2 x3 c : Int) (w : World) (hw : Words x0 x1 x2 x3) (h0 : 0 ≤ c) (h1 : c ≤ 255) :
    Calls Try.prog 14 #[.int .u8 c, .agg #[.int .u64 x0, .int .u64 x1, .int .u64 x2, .int .u64 x3]] w fun e w' => e = .returned (.string (strOfNums (qb (mkd x0 x1 x2 x3 c) c))) ∧ Below w.heap.size w w' := by
  by_cases a : c = 10
  · subst a; exact byte_10 _ w
  by_cases b : c = 13
  · subst b; exact byte_13 _ w
  by_cases d : c = 9
  · subst d; exact byte_9 _ w
  by_cases hx : c < 32 ∨ 126 < c
  · have e : qb (mkd x0 x1 x2 x3 c) c = [92, 120, hexd (c / 16), hexd (c % 16)] := by unfold qb; rw [if_neg a, if_neg b, if_neg d, if_pos hx]
    rw [e]; exact byte_hex x0 x1 x2 x3 c w h0 h1 a b d hx
  by_cases hy : c = 92 ∨ mkd x0 x1 x2 x3 c = true
  · have e : qb (mkd x0 x1 x2 x3 c) c = [92, c] := by unfold qb; rw [if_neg a, if_neg b, if_neg d, if_neg hx, if_pos hy]
    rw [e]; exact byte_esc x0 x1 x2 x3 c w hw (by omega) (by omega) hy
  · have e : qb (mkd x0 x1 x2 x3 c) c = [c] := by unfold qb; rw [if_neg a, if_neg b, if_neg d, if_neg hx, if_neg hy]
    rw [e]; exact byte_raw x0 x1 x2 x3 c w hw (by omega) (by omega) (fun h => hy (.inl h)) (by cases hm : mkd x0 x1 x2 x3 c; rfl; exact absurd (.inr hm) hy)
end Go.Proofs.Ytdgihlelopfdeaa
