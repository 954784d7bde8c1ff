/-
  QuoteSmall: the walk.
-/
import Derived.Test.YtdgihlelopfdeaaAll
namespace Go.Proofs.Ytdgihlelopfdeaa
open Go.RowKit Q

/-- The table of sets: four of four words. -/
@[reducible] def tab (a b c d e f g h i j k l : Int) : Array Value :=
  #[.int .u64 0, .int .u64 0, .int .u64 0, .int .u64 0, .int .u64 a, .int .u64 b, .int .u64 c, .int .u64 d, .int .u64 e, .int .u64 f, .int .u64 g, .int .u64 h, .int .u64 i, .int .u64 j, .int .u64 k, .int .u64 l]
theorem words_0 : Words 0 0 0 0 := by unfold Words; omega
theorem words_all : Words 18446744073709551615 18446744073709551615 18446744073709551615 18446744073709551615 := by unfold Words; omega
theorem of_words (cs : List Int) (b t n : Nat) (w : World) (hb : By cs) (hn : n = cs.length) (hl : cs.length ≤ 1000) (hB : Blk w b t (cs.map (Value.int .u8)).toArray) (hw : Words (ofw cs).1 (ofw cs).2.1 (ofw cs).2.2.1 (ofw cs).2.2.2) :
    Calls Try.prog 24 #[.slice (some ⟨b, 0, none⟩) n n] w fun e w' => (∃ a c d f, e = .returned (.agg #[.int .u64 a, .int .u64 c, .int .u64 d, .int .u64 f]) ∧ Words a c d f) ∧ Below w.heap.size w w' :=
  (of_any cs b t n w hb hn hl hB).mono fun _ _ ⟨he, h⟩ => ⟨⟨_, _, _, _, he, hw⟩, h⟩

@[reducible] def strs : Array Value := #[.string ⟨#[]⟩, .string ⟨#[34]⟩, .string ⟨#[92]⟩, .string ⟨#[97]⟩, .string ⟨#[110]⟩, .string ⟨#[120]⟩, .string ⟨#[52, 49]⟩, .string ⟨#[47]⟩, .string ⟨#[255]⟩]
def pieces : List (List Int) := [[], [34], [92], [97], [110], [120], [52, 49], [47], [255]]
theorem piece_cell (j : Nat) (hj : j < 9) : strs[j]? = some (.string (strOfNums (pieces.getD j []))) := by
  have h : j = 0 ∨ j = 1 ∨ j = 2 ∨ j = 3 ∨ j = 4 ∨ j = 5 ∨ j = 6 ∨ j = 7 ∨ j = 8 := by omega
  rcases h with rfl | rfl | rfl | rfl | rfl | rfl | rfl | rfl | rfl <;> rfl
def Small4 (z : List Int) : Prop := By z ∧ z.length ≤ 4
theorem piece_by (j : Nat) : Small4 (pieces.getD j []) := by
  by_cases hj : j < 9
  · have h : j = 0 ∨ j = 1 ∨ j = 2 ∨ j = 3 ∨ j = 4 ∨ j = 5 ∨ j = 6 ∨ j = 7 ∨ j = 8 := by omega
    rcases h with rfl | rfl | rfl | rfl | rfl | rfl | rfl | rfl | rfl
    all_goals exact ⟨by_dec _ (by decide), by decide⟩
  · rw [List.getD_eq_getElem?_getD, List.getElem?_eq_none (by simp [pieces]; omega)]
    exact ⟨by intro x hx; simp at hx, by simp⟩
theorem big (x0 x1 x2 x3 c : Int) (hw : Words x0 x1 x2 x3) (h0 : 0 ≤ c) (h1 : c ≤ 255) (z1 z2 z3 z4 : List Int) (hz1 : Small4 z1) (hz2 : Small4 z2) (hz3 : Small4 z3) (hz4 : Small4 z4) :
    ∀ w : World, Calls Try.prog 9 #[.string (strOfNums z1 ++ strOfNums z2 ++ strOfNums z3 ++ strOfNums z4), .int .u8 c, .agg #[.int .u64 x0, .int .u64 x1, .int .u64 x2, .int .u64 x3]] w fun e w' => e = .returned (.bool true) ∧ Below w.heap.size w w' := by
  intro w
  have := hz1.2; have := hz2.2; have := hz3.2; have := hz4.2
  rw [str_append, str_append, str_append]
  exact tells_any x0 x1 x2 x3 c _ w hw (by_append (by_append (by_append hz1.1 hz2.1) hz3.1) hz4.1) h0 h1 (by simp only [List.length_append]; omega)
theorem bigq (x0 x1 x2 x3 c : Int) (hw : Words x0 x1 x2 x3) (h0 : 0 ≤ c) (h1 : c ≤ 255) (z1 z2 z3 z4 : List Int) (hz1 : Small4 z1) (hz2 : Small4 z2) (hz3 : Small4 z3) (hz4 : Small4 z4) :
    ∀ w : World, Calls Try.prog 9 #[.string ((⟨#[34]⟩ : ByteArray) ++ (strOfNums z1 ++ strOfNums z2 ++ strOfNums z3 ++ strOfNums z4)), .int .u8 c, .agg #[.int .u64 x0, .int .u64 x1, .int .u64 x2, .int .u64 x3]] w fun e w' => e = .returned (.bool true) ∧ Below w.heap.size w w' := by
  intro w
  have := hz1.2; have := hz2.2; have := hz3.2; have := hz4.2
  rw [str34, str_append, str_append, str_append, str_append]
  exact tells_any x0 x1 x2 x3 c _ w hw (by_append (by_dec _ (by decide)) (by_append (by_append (by_append hz1.1 hz2.1) hz3.1) hz4.1)) h0 h1 (by simp only [List.length_append, List.length_cons, List.length_nil]; omega)

/-- tells of the six strings about a byte. -/
theorem six (x0 x1 x2 x3 c : Int) (hw : Words x0 x1 x2 x3) (h0 : 0 ≤ c) (h1 : c ≤ 255) (pre post : List Int) (hp : By pre) (hq : By post) (hl : pre.length ≤ 10) (hl2 : post.length ≤ 10) :
    ∀ w : World, Calls Try.prog 9 #[.string (strOfNums pre ++ strOfNums [c] ++ strOfNums post), .int .u8 c, .agg #[.int .u64 x0, .int .u64 x1, .int .u64 x2, .int .u64 x3]] w fun e w' => e = .returned (.bool true) ∧ Below w.heap.size w w' := by
  intro w
  rw [str_append, str_append]
  exact tells_any x0 x1 x2 x3 c _ w hw (by_append (by_append hp (by intro x hx; simp at hx; omega)) hq) h0 h1 (by simp only [List.length_append, List.length_cons, List.length_nil]; omega)
theorem six0 (x0 x1 x2 x3 c : Int) (hw : Words x0 x1 x2 x3) (h0 : 0 ≤ c) (h1 : c ≤ 255) :
    ∀ w : World, Calls Try.prog 9 #[.string (strOfNums [c]), .int .u8 c, .agg #[.int .u64 x0, .int .u64 x1, .int .u64 x2, .int .u64 x3]] w fun e w' => e = .returned (.bool true) ∧ Below w.heap.size w w' :=
  fun w => tells_any x0 x1 x2 x3 c _ w hw (by intro x hx; simp at hx; omega) h0 h1 (by simp)
theorem six1 (x0 x1 x2 x3 c : Int) (hw : Words x0 x1 x2 x3) (h0 : 0 ≤ c) (h1 : c ≤ 255) :
    ∀ w : World, Calls Try.prog 9 #[.string ((⟨#[92]⟩ : ByteArray) ++ strOfNums [c]), .int .u8 c, .agg #[.int .u64 x0, .int .u64 x1, .int .u64 x2, .int .u64 x3]] w fun e w' => e = .returned (.bool true) ∧ Below w.heap.size w w' := by
  intro w
  rw [show (⟨#[92]⟩ : ByteArray) = strOfNums [92] from rfl, str_append]
  exact tells_any x0 x1 x2 x3 c _ w hw (by intro x hx; simp at hx; omega) h0 h1 (by simp)

set_option maxRecDepth 100000 in
set_option maxHeartbeats 16000000 in
theorem small_any (w : World) : Calls Try.prog 8 #[] w fun e w' => e = .returned (.bool true) ∧ Below w.heap.size w w' := by
  go_enter Try.func8, Try.ntmps8
  have W1 := Lib.hid (fun (w : World) (b : Nat) (hB : Blk w b 5 #[.int .u8 47, .int .u8 42, .int .u8 34]) => of_words [47, 42, 34] b 5 3 w (by_dec _ (by decide)) rfl (by simp) hB (by rw [show ofw [47, 42, 34] = (145152714735616, 0, 0, 0) from by decide +kernel]; unfold Words; dsimp only; omega))
  have W3 := Lib.hid (fun (w : World) (b : Nat) (hB : Blk w b 5 #[.int .u8 110, .int .u8 120, .int .u8 48, .int .u8 10, .int .u8 200]) => of_words [110, 120, 48, 10, 200] b 5 5 w (by_dec _ (by decide)) rfl (by simp) hB (by rw [show ofw [110, 120, 48, 10, 200] = (281474976711680, 72127962782105600, 0, 256) from by decide +kernel]; unfold Words; dsimp only; omega))
  go_wp2_with fail
  refine (W1.out _ _ (Blk.new _ _ _)).mono ?_
  rintro e g1 ⟨⟨a, b, c, d, rfl, hW1⟩, hg1⟩
  have hB1 : Below w.heap.size w g1 := bl (by go_grown) hg1
  clear hg1 W1
  go_wp2_with fail
  refine (all_any _).mono ?_
  rintro e g2 ⟨rfl, hg2⟩
  have hB2 := bl hB1 hg2
  clear hg2 hB1
  go_wp2_with fail
  refine (W3.out _ _ (Blk.new _ _ _)).mono ?_
  rintro e g3 ⟨⟨i3, j3, k3, l3, rfl, hW3⟩, hg3⟩
  have hB3 : Below w.heap.size w g3 := bl (hB2.alloc (by have := hB2.size; omega) _) hg3
  clear hg3 hB2 W3
  go_upto_region 2 with fail
  have hT0 : Blk (g3.alloc (.cells (tab a b c d 18446744073709551615 18446744073709551615 18446744073709551615 18446744073709551615 i3 j3 k3 l3) 24)) g3.heap.size 24 (tab a b c d 18446744073709551615 18446744073709551615 18446744073709551615 18446744073709551615 i3 j3 k3 l3) := Blk.new _ _ _
  have hB0 : Below w.heap.size w (g3.alloc (.cells (tab a b c d 18446744073709551615 18446744073709551615 18446744073709551615 18446744073709551615 i3 j3 k3 l3) 24)) := hB3.alloc (by have := hB3.size; omega) _
  have hzu := hB3.size
  clear hB3
  go_wp2_with fail
  go_loopw [16] (fun x wr => ∃ k : Nat, k ≤ 256 ∧ x = .int .i64 k ∧ Blk wr g3.heap.size 24 (tab a b c d 18446744073709551615 18446744073709551615 18446744073709551615 18446744073709551615 i3 j3 k3 l3) ∧ Below w.heap.size w wr) (fun x _ => 256 - (intOf x).toNat)
  case atStart => exact ⟨0, by omega, rfl, hT0, hB0⟩
  case round =>
    clear hT0 hB0
    obtain ⟨k, hk, rfl, hT, hB⟩ := hrel
    have hzT := hT.lt
    by_cases hlt : k < 256
    · have hwk : IntKind.u8.wrap (k : Int) = (k : Int) := by rw [IntKind.wrap_u8]; omega
      go_wp2_with fail
      rw [conv_blk (b := wr.heap.size) (t := 5) [(k : Int)] 1 1 rfl (show Blk (wr.alloc (.cells #[.int .u8 (k : Int)] 5)) wr.heap.size 5 ([(k : Int)].map (Value.int .u8)).toArray from Blk.new wr 5 _)]
      simp only [Result.andThen]
      rw [Oper.upon_value]
      have hss := strOfNums_size [(k : Int)]
      simp only [List.length_cons, List.length_nil] at hss
      have hT1 := hT.alloc (.cells #[.int .u8 (k : Int)] 5)
      have hB1 : Below w.heap.size w (wr.alloc (.cells #[.int .u8 (k : Int)] 5)) := hB.alloc (by have := hB.size; omega) _
      clear hT hB hzT
      go_wp2_with fail
      go_loopw [25] (fun x wr => ∃ i : Nat, i ≤ 4 ∧ x = .int .i64 i ∧ Blk wr g3.heap.size 24 (tab a b c d 18446744073709551615 18446744073709551615 18446744073709551615 18446744073709551615 i3 j3 k3 l3) ∧ Below w.heap.size w wr) (fun x _ => 4 - (intOf x).toNat)
      case atStart => exact ⟨0, by omega, rfl, hT1, hB1⟩
      case round =>
        clear hT1 hB1
        obtain ⟨i, hi, rfl, hT, hB⟩ := hrel
        have hii : i = 0 ∨ i = 1 ∨ i = 2 ∨ i = 3 ∨ i = 4 := by omega
        rcases hii with rfl | rfl | rfl | rfl | rfl
        · have t0 := hT.cell 0
          have t1 := hT.cell 1
          have t2 := hT.cell 2
          have t3 := hT.cell 3
          have H0 := Lib.hid (six0 0 0 0 0 (k : Int) words_0 (by omega) (by omega))
          have H1 := Lib.hid (six1 0 0 0 0 (k : Int) words_0 (by omega) (by omega))
          have H2 : Hid (∀ w : World, Calls Try.prog 9 #[.string ((⟨#[92, 120, 52]⟩ : ByteArray) ++ strOfNums [(k : Int)] ++ ⟨#[97]⟩), .int .u8 (k : Int), .agg #[.int .u64 0, .int .u64 0, .int .u64 0, .int .u64 0]] w fun e w' => e = .returned (.bool true) ∧ Below w.heap.size w w') := Lib.hid (six 0 0 0 0 (k : Int) words_0 (by omega) (by omega) [92, 120, 52] [97] (by_dec _ (by decide)) (by_dec _ (by decide)) (by simp) (by simp))
          have H3 : Hid (∀ w : World, Calls Try.prog 9 #[.string ((⟨#[92, 120]⟩ : ByteArray) ++ strOfNums [(k : Int)] ++ ⟨#[102]⟩), .int .u8 (k : Int), .agg #[.int .u64 0, .int .u64 0, .int .u64 0, .int .u64 0]] w fun e w' => e = .returned (.bool true) ∧ Below w.heap.size w w') := Lib.hid (six 0 0 0 0 (k : Int) words_0 (by omega) (by omega) [92, 120] [102] (by_dec _ (by decide)) (by_dec _ (by decide)) (by simp) (by simp))
          have H4 : Hid (∀ w : World, Calls Try.prog 9 #[.string ((⟨#[34]⟩ : ByteArray) ++ strOfNums [(k : Int)] ++ ⟨#[34]⟩), .int .u8 (k : Int), .agg #[.int .u64 0, .int .u64 0, .int .u64 0, .int .u64 0]] w fun e w' => e = .returned (.bool true) ∧ Below w.heap.size w w') := Lib.hid (six 0 0 0 0 (k : Int) words_0 (by omega) (by omega) [34] [34] (by_dec _ (by decide)) (by_dec _ (by decide)) (by simp) (by simp))
          have H5 : Hid (∀ w : World, Calls Try.prog 9 #[.string ((⟨#[97, 92]⟩ : ByteArray) ++ strOfNums [(k : Int)] ++ ⟨#[49, 98]⟩), .int .u8 (k : Int), .agg #[.int .u64 0, .int .u64 0, .int .u64 0, .int .u64 0]] w fun e w' => e = .returned (.bool true) ∧ Below w.heap.size w w') := Lib.hid (six 0 0 0 0 (k : Int) words_0 (by omega) (by omega) [97, 92] [49, 98] (by_dec _ (by decide)) (by_dec _ (by decide)) (by simp) (by simp))
          generalize strOfNums [(k : Int)] = sb at *
          have hM0 := Blk.new wr 24 #[.int .u64 0, .int .u64 0, .int .u64 0, .int .u64 0]
          have hTn := hT.alloc (.cells #[.int .u64 0, .int .u64 0, .int .u64 0, .int .u64 0] 24)
          have hBn : Below w.heap.size w (wr.alloc (.cells #[.int .u64 0, .int .u64 0, .int .u64 0, .int .u64 0] 24)) := hB.alloc (by have := hB.size; omega) _
          go_wp2_with fail
          refine (H0.out _).mono ?_
          rintro e v0 ⟨rfl, hb⟩
          have hM1 := hM0.below hb hM0.lt
          have hT0 := hTn.below hb hTn.lt
          have hB0 := bl hBn hb
          have q0 := hM1.cell 0
          have q1 := hM1.cell 1
          have q2 := hM1.cell 2
          have q3 := hM1.cell 3
          clear hb
          go_wp2_with fail
          refine (H1.out _).mono ?_
          rintro e v1 ⟨rfl, hb⟩
          have hM2 := hM1.below hb hM1.lt
          have hT1 := hT0.below hb hT0.lt
          have hB1 := bl hB0 hb
          have q0 := hM2.cell 0
          have q1 := hM2.cell 1
          have q2 := hM2.cell 2
          have q3 := hM2.cell 3
          clear hb
          go_wp2_with fail
          refine (H2.out _).mono ?_
          rintro e v2 ⟨rfl, hb⟩
          have hM3 := hM2.below hb hM2.lt
          have hT2 := hT1.below hb hT1.lt
          have hB2 := bl hB1 hb
          have q0 := hM3.cell 0
          have q1 := hM3.cell 1
          have q2 := hM3.cell 2
          have q3 := hM3.cell 3
          clear hb
          go_wp2_with fail
          refine (H3.out _).mono ?_
          rintro e v3 ⟨rfl, hb⟩
          have hM4 := hM3.below hb hM3.lt
          have hT3 := hT2.below hb hT2.lt
          have hB3 := bl hB2 hb
          have q0 := hM4.cell 0
          have q1 := hM4.cell 1
          have q2 := hM4.cell 2
          have q3 := hM4.cell 3
          clear hb
          go_wp2_with fail
          refine (H4.out _).mono ?_
          rintro e v4 ⟨rfl, hb⟩
          have hM5 := hM4.below hb hM4.lt
          have hT4 := hT3.below hb hT3.lt
          have hB4 := bl hB3 hb
          have q0 := hM5.cell 0
          have q1 := hM5.cell 1
          have q2 := hM5.cell 2
          have q3 := hM5.cell 3
          clear hb
          go_wp2_with fail
          refine (H5.out _).mono ?_
          rintro e v5 ⟨rfl, hb⟩
          have hM6 := hM5.below hb hM5.lt
          have hT5 := hT4.below hb hT4.lt
          have hB5 := bl hB4 hb
          have q0 := hM6.cell 0
          have q1 := hM6.cell 1
          have q2 := hM6.cell 2
          have q3 := hM6.cell 3
          clear hb
          go_wp2_with fail
          go_roundw
          case rel => exact ⟨1, by omega, by rfl, hT5, hB5⟩
          case measure => simp [intOf]
        · have t0 := hT.cell 4
          have t1 := hT.cell 5
          have t2 := hT.cell 6
          have t3 := hT.cell 7
          have H0 := Lib.hid (six0 a b c d (k : Int) hW1 (by omega) (by omega))
          have H1 := Lib.hid (six1 a b c d (k : Int) hW1 (by omega) (by omega))
          have H2 : Hid (∀ w : World, Calls Try.prog 9 #[.string ((⟨#[92, 120, 52]⟩ : ByteArray) ++ strOfNums [(k : Int)] ++ ⟨#[97]⟩), .int .u8 (k : Int), .agg #[.int .u64 a, .int .u64 b, .int .u64 c, .int .u64 d]] w fun e w' => e = .returned (.bool true) ∧ Below w.heap.size w w') := Lib.hid (six a b c d (k : Int) hW1 (by omega) (by omega) [92, 120, 52] [97] (by_dec _ (by decide)) (by_dec _ (by decide)) (by simp) (by simp))
          have H3 : Hid (∀ w : World, Calls Try.prog 9 #[.string ((⟨#[92, 120]⟩ : ByteArray) ++ strOfNums [(k : Int)] ++ ⟨#[102]⟩), .int .u8 (k : Int), .agg #[.int .u64 a, .int .u64 b, .int .u64 c, .int .u64 d]] w fun e w' => e = .returned (.bool true) ∧ Below w.heap.size w w') := Lib.hid (six a b c d (k : Int) hW1 (by omega) (by omega) [92, 120] [102] (by_dec _ (by decide)) (by_dec _ (by decide)) (by simp) (by simp))
          have H4 : Hid (∀ w : World, Calls Try.prog 9 #[.string ((⟨#[34]⟩ : ByteArray) ++ strOfNums [(k : Int)] ++ ⟨#[34]⟩), .int .u8 (k : Int), .agg #[.int .u64 a, .int .u64 b, .int .u64 c, .int .u64 d]] w fun e w' => e = .returned (.bool true) ∧ Below w.heap.size w w') := Lib.hid (six a b c d (k : Int) hW1 (by omega) (by omega) [34] [34] (by_dec _ (by decide)) (by_dec _ (by decide)) (by simp) (by simp))
          have H5 : Hid (∀ w : World, Calls Try.prog 9 #[.string ((⟨#[97, 92]⟩ : ByteArray) ++ strOfNums [(k : Int)] ++ ⟨#[49, 98]⟩), .int .u8 (k : Int), .agg #[.int .u64 a, .int .u64 b, .int .u64 c, .int .u64 d]] w fun e w' => e = .returned (.bool true) ∧ Below w.heap.size w w') := Lib.hid (six a b c d (k : Int) hW1 (by omega) (by omega) [97, 92] [49, 98] (by_dec _ (by decide)) (by_dec _ (by decide)) (by simp) (by simp))
          generalize strOfNums [(k : Int)] = sb at *
          have hM0 := Blk.new wr 24 #[.int .u64 a, .int .u64 b, .int .u64 c, .int .u64 d]
          have hTn := hT.alloc (.cells #[.int .u64 a, .int .u64 b, .int .u64 c, .int .u64 d] 24)
          have hBn : Below w.heap.size w (wr.alloc (.cells #[.int .u64 a, .int .u64 b, .int .u64 c, .int .u64 d] 24)) := hB.alloc (by have := hB.size; omega) _
          go_wp2_with fail
          refine (H0.out _).mono ?_
          rintro e v0 ⟨rfl, hb⟩
          have hM1 := hM0.below hb hM0.lt
          have hT0 := hTn.below hb hTn.lt
          have hB0 := bl hBn hb
          have q0 := hM1.cell 0
          have q1 := hM1.cell 1
          have q2 := hM1.cell 2
          have q3 := hM1.cell 3
          clear hb
          go_wp2_with fail
          refine (H1.out _).mono ?_
          rintro e v1 ⟨rfl, hb⟩
          have hM2 := hM1.below hb hM1.lt
          have hT1 := hT0.below hb hT0.lt
          have hB1 := bl hB0 hb
          have q0 := hM2.cell 0
          have q1 := hM2.cell 1
          have q2 := hM2.cell 2
          have q3 := hM2.cell 3
          clear hb
          go_wp2_with fail
          refine (H2.out _).mono ?_
          rintro e v2 ⟨rfl, hb⟩
          have hM3 := hM2.below hb hM2.lt
          have hT2 := hT1.below hb hT1.lt
          have hB2 := bl hB1 hb
          have q0 := hM3.cell 0
          have q1 := hM3.cell 1
          have q2 := hM3.cell 2
          have q3 := hM3.cell 3
          clear hb
          go_wp2_with fail
          refine (H3.out _).mono ?_
          rintro e v3 ⟨rfl, hb⟩
          have hM4 := hM3.below hb hM3.lt
          have hT3 := hT2.below hb hT2.lt
          have hB3 := bl hB2 hb
          have q0 := hM4.cell 0
          have q1 := hM4.cell 1
          have q2 := hM4.cell 2
          have q3 := hM4.cell 3
          clear hb
          go_wp2_with fail
          refine (H4.out _).mono ?_
          rintro e v4 ⟨rfl, hb⟩
          have hM5 := hM4.below hb hM4.lt
          have hT4 := hT3.below hb hT3.lt
          have hB4 := bl hB3 hb
          have q0 := hM5.cell 0
          have q1 := hM5.cell 1
          have q2 := hM5.cell 2
          have q3 := hM5.cell 3
          clear hb
          go_wp2_with fail
          refine (H5.out _).mono ?_
          rintro e v5 ⟨rfl, hb⟩
          have hM6 := hM5.below hb hM5.lt
          have hT5 := hT4.below hb hT4.lt
          have hB5 := bl hB4 hb
          have q0 := hM6.cell 0
          have q1 := hM6.cell 1
          have q2 := hM6.cell 2
          have q3 := hM6.cell 3
          clear hb
          go_wp2_with fail
          go_roundw
          case rel => exact ⟨2, by omega, by rfl, hT5, hB5⟩
          case measure => simp [intOf]
        · have t0 := hT.cell 8
          have t1 := hT.cell 9
          have t2 := hT.cell 10
          have t3 := hT.cell 11
          have H0 := Lib.hid (six0 18446744073709551615 18446744073709551615 18446744073709551615 18446744073709551615 (k : Int) words_all (by omega) (by omega))
          have H1 := Lib.hid (six1 18446744073709551615 18446744073709551615 18446744073709551615 18446744073709551615 (k : Int) words_all (by omega) (by omega))
          have H2 : Hid (∀ w : World, Calls Try.prog 9 #[.string ((⟨#[92, 120, 52]⟩ : ByteArray) ++ strOfNums [(k : Int)] ++ ⟨#[97]⟩), .int .u8 (k : Int), .agg #[.int .u64 18446744073709551615, .int .u64 18446744073709551615, .int .u64 18446744073709551615, .int .u64 18446744073709551615]] w fun e w' => e = .returned (.bool true) ∧ Below w.heap.size w w') := Lib.hid (six 18446744073709551615 18446744073709551615 18446744073709551615 18446744073709551615 (k : Int) words_all (by omega) (by omega) [92, 120, 52] [97] (by_dec _ (by decide)) (by_dec _ (by decide)) (by simp) (by simp))
          have H3 : Hid (∀ w : World, Calls Try.prog 9 #[.string ((⟨#[92, 120]⟩ : ByteArray) ++ strOfNums [(k : Int)] ++ ⟨#[102]⟩), .int .u8 (k : Int), .agg #[.int .u64 18446744073709551615, .int .u64 18446744073709551615, .int .u64 18446744073709551615, .int .u64 18446744073709551615]] w fun e w' => e = .returned (.bool true) ∧ Below w.heap.size w w') := Lib.hid (six 18446744073709551615 18446744073709551615 18446744073709551615 18446744073709551615 (k : Int) words_all (by omega) (by omega) [92, 120] [102] (by_dec _ (by decide)) (by_dec _ (by decide)) (by simp) (by simp))
          have H4 : Hid (∀ w : World, Calls Try.prog 9 #[.string ((⟨#[34]⟩ : ByteArray) ++ strOfNums [(k : Int)] ++ ⟨#[34]⟩), .int .u8 (k : Int), .agg #[.int .u64 18446744073709551615, .int .u64 18446744073709551615, .int .u64 18446744073709551615, .int .u64 18446744073709551615]] w fun e w' => e = .returned (.bool true) ∧ Below w.heap.size w w') := Lib.hid (six 18446744073709551615 18446744073709551615 18446744073709551615 18446744073709551615 (k : Int) words_all (by omega) (by omega) [34] [34] (by_dec _ (by decide)) (by_dec _ (by decide)) (by simp) (by simp))
          have H5 : Hid (∀ w : World, Calls Try.prog 9 #[.string ((⟨#[97, 92]⟩ : ByteArray) ++ strOfNums [(k : Int)] ++ ⟨#[49, 98]⟩), .int .u8 (k : Int), .agg #[.int .u64 18446744073709551615, .int .u64 18446744073709551615, .int .u64 18446744073709551615, .int .u64 18446744073709551615]] w fun e w' => e = .returned (.bool true) ∧ Below w.heap.size w w') := Lib.hid (six 18446744073709551615 18446744073709551615 18446744073709551615 18446744073709551615 (k : Int) words_all (by omega) (by omega) [97, 92] [49, 98] (by_dec _ (by decide)) (by_dec _ (by decide)) (by simp) (by simp))
          generalize strOfNums [(k : Int)] = sb at *
          have hM0 := Blk.new wr 24 #[.int .u64 18446744073709551615, .int .u64 18446744073709551615, .int .u64 18446744073709551615, .int .u64 18446744073709551615]
          have hTn := hT.alloc (.cells #[.int .u64 18446744073709551615, .int .u64 18446744073709551615, .int .u64 18446744073709551615, .int .u64 18446744073709551615] 24)
          have hBn : Below w.heap.size w (wr.alloc (.cells #[.int .u64 18446744073709551615, .int .u64 18446744073709551615, .int .u64 18446744073709551615, .int .u64 18446744073709551615] 24)) := hB.alloc (by have := hB.size; omega) _
          go_wp2_with fail
          refine (H0.out _).mono ?_
          rintro e v0 ⟨rfl, hb⟩
          have hM1 := hM0.below hb hM0.lt
          have hT0 := hTn.below hb hTn.lt
          have hB0 := bl hBn hb
          have q0 := hM1.cell 0
          have q1 := hM1.cell 1
          have q2 := hM1.cell 2
          have q3 := hM1.cell 3
          clear hb
          go_wp2_with fail
          refine (H1.out _).mono ?_
          rintro e v1 ⟨rfl, hb⟩
          have hM2 := hM1.below hb hM1.lt
          have hT1 := hT0.below hb hT0.lt
          have hB1 := bl hB0 hb
          have q0 := hM2.cell 0
          have q1 := hM2.cell 1
          have q2 := hM2.cell 2
          have q3 := hM2.cell 3
          clear hb
          go_wp2_with fail
          refine (H2.out _).mono ?_
          rintro e v2 ⟨rfl, hb⟩
          have hM3 := hM2.below hb hM2.lt
          have hT2 := hT1.below hb hT1.lt
          have hB2 := bl hB1 hb
          have q0 := hM3.cell 0
          have q1 := hM3.cell 1
          have q2 := hM3.cell 2
          have q3 := hM3.cell 3
          clear hb
          go_wp2_with fail
          refine (H3.out _).mono ?_
          rintro e v3 ⟨rfl, hb⟩
          have hM4 := hM3.below hb hM3.lt
          have hT3 := hT2.below hb hT2.lt
          have hB3 := bl hB2 hb
          have q0 := hM4.cell 0
          have q1 := hM4.cell 1
          have q2 := hM4.cell 2
          have q3 := hM4.cell 3
          clear hb
          go_wp2_with fail
          refine (H4.out _).mono ?_
          rintro e v4 ⟨rfl, hb⟩
          have hM5 := hM4.below hb hM4.lt
          have hT4 := hT3.below hb hT3.lt
          have hB4 := bl hB3 hb
          have q0 := hM5.cell 0
          have q1 := hM5.cell 1
          have q2 := hM5.cell 2
          have q3 := hM5.cell 3
          clear hb
          go_wp2_with fail
          refine (H5.out _).mono ?_
          rintro e v5 ⟨rfl, hb⟩
          have hM6 := hM5.below hb hM5.lt
          have hT5 := hT4.below hb hT4.lt
          have hB5 := bl hB4 hb
          have q0 := hM6.cell 0
          have q1 := hM6.cell 1
          have q2 := hM6.cell 2
          have q3 := hM6.cell 3
          clear hb
          go_wp2_with fail
          go_roundw
          case rel => exact ⟨3, by omega, by rfl, hT5, hB5⟩
          case measure => simp [intOf]
        · have t0 := hT.cell 12
          have t1 := hT.cell 13
          have t2 := hT.cell 14
          have t3 := hT.cell 15
          have H0 := Lib.hid (six0 i3 j3 k3 l3 (k : Int) hW3 (by omega) (by omega))
          have H1 := Lib.hid (six1 i3 j3 k3 l3 (k : Int) hW3 (by omega) (by omega))
          have H2 : Hid (∀ w : World, Calls Try.prog 9 #[.string ((⟨#[92, 120, 52]⟩ : ByteArray) ++ strOfNums [(k : Int)] ++ ⟨#[97]⟩), .int .u8 (k : Int), .agg #[.int .u64 i3, .int .u64 j3, .int .u64 k3, .int .u64 l3]] w fun e w' => e = .returned (.bool true) ∧ Below w.heap.size w w') := Lib.hid (six i3 j3 k3 l3 (k : Int) hW3 (by omega) (by omega) [92, 120, 52] [97] (by_dec _ (by decide)) (by_dec _ (by decide)) (by simp) (by simp))
          have H3 : Hid (∀ w : World, Calls Try.prog 9 #[.string ((⟨#[92, 120]⟩ : ByteArray) ++ strOfNums [(k : Int)] ++ ⟨#[102]⟩), .int .u8 (k : Int), .agg #[.int .u64 i3, .int .u64 j3, .int .u64 k3, .int .u64 l3]] w fun e w' => e = .returned (.bool true) ∧ Below w.heap.size w w') := Lib.hid (six i3 j3 k3 l3 (k : Int) hW3 (by omega) (by omega) [92, 120] [102] (by_dec _ (by decide)) (by_dec _ (by decide)) (by simp) (by simp))
          have H4 : Hid (∀ w : World, Calls Try.prog 9 #[.string ((⟨#[34]⟩ : ByteArray) ++ strOfNums [(k : Int)] ++ ⟨#[34]⟩), .int .u8 (k : Int), .agg #[.int .u64 i3, .int .u64 j3, .int .u64 k3, .int .u64 l3]] w fun e w' => e = .returned (.bool true) ∧ Below w.heap.size w w') := Lib.hid (six i3 j3 k3 l3 (k : Int) hW3 (by omega) (by omega) [34] [34] (by_dec _ (by decide)) (by_dec _ (by decide)) (by simp) (by simp))
          have H5 : Hid (∀ w : World, Calls Try.prog 9 #[.string ((⟨#[97, 92]⟩ : ByteArray) ++ strOfNums [(k : Int)] ++ ⟨#[49, 98]⟩), .int .u8 (k : Int), .agg #[.int .u64 i3, .int .u64 j3, .int .u64 k3, .int .u64 l3]] w fun e w' => e = .returned (.bool true) ∧ Below w.heap.size w w') := Lib.hid (six i3 j3 k3 l3 (k : Int) hW3 (by omega) (by omega) [97, 92] [49, 98] (by_dec _ (by decide)) (by_dec _ (by decide)) (by simp) (by simp))
          generalize strOfNums [(k : Int)] = sb at *
          have hM0 := Blk.new wr 24 #[.int .u64 i3, .int .u64 j3, .int .u64 k3, .int .u64 l3]
          have hTn := hT.alloc (.cells #[.int .u64 i3, .int .u64 j3, .int .u64 k3, .int .u64 l3] 24)
          have hBn : Below w.heap.size w (wr.alloc (.cells #[.int .u64 i3, .int .u64 j3, .int .u64 k3, .int .u64 l3] 24)) := hB.alloc (by have := hB.size; omega) _
          go_wp2_with fail
          refine (H0.out _).mono ?_
          rintro e v0 ⟨rfl, hb⟩
          have hM1 := hM0.below hb hM0.lt
          have hT0 := hTn.below hb hTn.lt
          have hB0 := bl hBn hb
          have q0 := hM1.cell 0
          have q1 := hM1.cell 1
          have q2 := hM1.cell 2
          have q3 := hM1.cell 3
          clear hb
          go_wp2_with fail
          refine (H1.out _).mono ?_
          rintro e v1 ⟨rfl, hb⟩
          have hM2 := hM1.below hb hM1.lt
          have hT1 := hT0.below hb hT0.lt
          have hB1 := bl hB0 hb
          have q0 := hM2.cell 0
          have q1 := hM2.cell 1
          have q2 := hM2.cell 2
          have q3 := hM2.cell 3
          clear hb
          go_wp2_with fail
          refine (H2.out _).mono ?_
          rintro e v2 ⟨rfl, hb⟩
          have hM3 := hM2.below hb hM2.lt
          have hT2 := hT1.below hb hT1.lt
          have hB2 := bl hB1 hb
          have q0 := hM3.cell 0
          have q1 := hM3.cell 1
          have q2 := hM3.cell 2
          have q3 := hM3.cell 3
          clear hb
          go_wp2_with fail
          refine (H3.out _).mono ?_
          rintro e v3 ⟨rfl, hb⟩
          have hM4 := hM3.below hb hM3.lt
          have hT3 := hT2.below hb hT2.lt
          have hB3 := bl hB2 hb
          have q0 := hM4.cell 0
          have q1 := hM4.cell 1
          have q2 := hM4.cell 2
          have q3 := hM4.cell 3
          clear hb
          go_wp2_with fail
          refine (H4.out _).mono ?_
          rintro e v4 ⟨rfl, hb⟩
          have hM5 := hM4.below hb hM4.lt
          have hT4 := hT3.below hb hT3.lt
          have hB4 := bl hB3 hb
          have q0 := hM5.cell 0
          have q1 := hM5.cell 1
          have q2 := hM5.cell 2
          have q3 := hM5.cell 3
          clear hb
          go_wp2_with fail
          refine (H5.out _).mono ?_
          rintro e v5 ⟨rfl, hb⟩
          have hM6 := hM5.below hb hM5.lt
          have hT5 := hT4.below hb hT4.lt
          have hB5 := bl hB4 hb
          have q0 := hM6.cell 0
          have q1 := hM6.cell 1
          have q2 := hM6.cell 2
          have q3 := hM6.cell 3
          clear hb
          go_wp2_with fail
          go_roundw
          case rel => exact ⟨4, by omega, by rfl, hT5, hB5⟩
          case measure => simp [intOf]
        · go_wp2_with fail
          go_roundw
          case rel => exact ⟨k + 1, by omega, by go_num, hT, hB⟩
          case measure => simp [intOf]; omega
    · obtain rfl : k = 256 := by omega
      clear hlt hzT
      go_wp2_with fail
      have hS0 := Blk.new wr 9 strs
      have hT1 := hT.alloc (.cells strs 9)
      have hB1 : Below w.heap.size w (wr.alloc (.cells strs 9)) := hB.alloc (by have := hB.size; omega) _
      clear hT hB
      have hTz := Lib.hid (rfl : wr.heap.size = wr.heap.size)
      generalize wr.heap.size = T2 at *
      go_loopw [87] (fun x wq => ∃ n : Nat, n ≤ 6561 ∧ x = .int .i64 n ∧ Blk wq g3.heap.size 24 (tab a b c d 18446744073709551615 18446744073709551615 18446744073709551615 18446744073709551615 i3 j3 k3 l3) ∧ Blk wq T2 9 strs ∧ Below w.heap.size w wq) (fun x _ => 6561 - (intOf x).toNat)
      case atStart => exact ⟨0, by omega, rfl, hT1, hS0, hB1⟩
      case round =>
        clear hT1 hB1 hS0
        obtain ⟨n, hn, rfl, hT, hS, hB⟩ := hrel
        by_cases hnl : n < 6561
        · have hm1 : (n : Int) % 9 = ((n % 9 : Nat) : Int) := by omega
          have hq9 : (n : Int) / 9 = ((n / 9 : Nat) : Int) := by omega
          have hm2 : ((n / 9 : Nat) : Int) % 9 = ((n / 9 % 9 : Nat) : Int) := by omega
          have hq81 : (n : Int) / 81 = ((n / 81 : Nat) : Int) := by omega
          have hm3 : ((n / 81 : Nat) : Int) % 9 = ((n / 81 % 9 : Nat) : Int) := by omega
          have hq729 : (n : Int) / 729 = ((n / 729 : Nat) : Int) := by omega
          have b1 : n % 9 < 9 := by omega
          have b2 : n / 9 % 9 < 9 := by omega
          have b3 : n / 81 % 9 < 9 := by omega
          have b4 : n / 729 < 9 := by omega
          have hsz := hS.lt
          have c1 : ∀ p : Bw wr, p.val.cell? ⟨T2, n % 9, none⟩ = some (.string (strOfNums (pieces.getD (n % 9) []))) := Bw.cell hsz ((hS.cell _).trans (piece_cell _ b1))
          have c2 : ∀ p : Bw wr, p.val.cell? ⟨T2, n / 9 % 9, none⟩ = some (.string (strOfNums (pieces.getD (n / 9 % 9) []))) := Bw.cell hsz ((hS.cell _).trans (piece_cell _ b2))
          have c3 : ∀ p : Bw wr, p.val.cell? ⟨T2, n / 81 % 9, none⟩ = some (.string (strOfNums (pieces.getD (n / 81 % 9) []))) := Bw.cell hsz ((hS.cell _).trans (piece_cell _ b3))
          have c4 : ∀ p : Bw wr, p.val.cell? ⟨T2, n / 729, none⟩ = some (.string (strOfNums (pieces.getD (n / 729) []))) := Bw.cell hsz ((hS.cell _).trans (piece_cell _ b4))
          have hz1 := piece_by (n % 9)
          have hz2 := piece_by (n / 9 % 9)
          have hz3 := piece_by (n / 81 % 9)
          have hz4 := piece_by (n / 729)
          have s1z := strOfNums_size (pieces.getD (n % 9) [])
          have s2z := strOfNums_size (pieces.getD (n / 9 % 9) [])
          have s3z := strOfNums_size (pieces.getD (n / 81 % 9) [])
          have s4z := strOfNums_size (pieces.getD (n / 729) [])
          have el1 := hz1.2
          have el2 := hz2.2
          have el3 := hz3.2
          have el4 := hz4.2
          generalize pieces.getD (n % 9) [] = z1 at *
          generalize pieces.getD (n / 9 % 9) [] = z2 at *
          generalize pieces.getD (n / 81 % 9) [] = z3 at *
          generalize pieces.getD (n / 729) [] = z4 at *
          have hk4 : (n : Int) % 4 = 0 ∨ (n : Int) % 4 = 1 ∨ (n : Int) % 4 = 2 ∨ (n : Int) % 4 = 3 := by omega
          obtain ⟨c2', hwu, hc0, hc1⟩ : ∃ c2' : Int, IntKind.u8.wrap (n : Int) = c2' ∧ 0 ≤ c2' ∧ c2' ≤ 255 := ⟨_, rfl, by rw [IntKind.wrap_u8]; omega, by rw [IntKind.wrap_u8]; omega⟩
          generalize n % 9 = y1 at *
          generalize n / 9 % 9 = y2 at *
          generalize n / 81 % 9 = y3 at *
          generalize n / 729 = y4 at *
          generalize n / 9 = n9 at *
          generalize n / 81 = n81 at *
          go_upto_region 17 with fail
          refine wp_region_bw (by kernel_rfl) (by kernel_rfl) ?_
          repeat (go_big_quiet_step (fail))
          refine wpQuiet_nil ?_
          rintro _ ⟨p, rfl⟩
          obtain ⟨w5, hb5⟩ := p
          dsimp only
          have hT5 := hT.below hb5 hT.lt
          have hS5 := hS.below hb5 hS.lt
          have hB5 := bl hB hb5
          clear hb5 hT hS hB c1 c2 c3 c4 hm1 hm2 hm3 hq9 hq81 hq729
          rcases hk4 with hk4 | hk4 | hk4 | hk4
          · have F1 := Lib.hid (big 0 0 0 0 c2' words_0 hc0 hc1 z1 z2 z3 z4 hz1 hz2 hz3 hz4)
            have F2 := Lib.hid (bigq a b c d c2' hW1 hc0 hc1 z1 z2 z3 z4 hz1 hz2 hz3 hz4)
            generalize strOfNums z1 = s1 at *
            generalize strOfNums z2 = s2 at *
            generalize strOfNums z3 = s3 at *
            generalize strOfNums z4 = s4 at *
            have t0 := hT5.cell 0
            have t1 := hT5.cell 1
            have t2 := hT5.cell 2
            have t3 := hT5.cell 3
            go_wp2_with fail
            refine (F1.out _).mono ?_
            rintro e w6 ⟨rfl, hb⟩
            have hT6 := hT5.below hb hT5.lt
            have hS6 := hS5.below hb hS5.lt
            have hB6 := bl hB5 hb
            have q0 := hT6.cell 4
            have q1 := hT6.cell 5
            have q2 := hT6.cell 6
            have q3 := hT6.cell 7
            clear hb t0 t1 t2 t3
            go_wp2_with fail
            refine (F2.out _).mono ?_
            rintro e w7 ⟨rfl, hb⟩
            go_wp2_with fail
            clear hk4 hwu
            go_roundw
            case rel => (repeat apply Exists.intro); exact ⟨⟨n + 1, by omega, by go_num, hT6.below hb hT6.lt, hS6.below hb hS6.lt, bl hB6 hb⟩, rfl⟩
            case measure => simp [intOf]; omega
          · have F1 := Lib.hid (big a b c d c2' hW1 hc0 hc1 z1 z2 z3 z4 hz1 hz2 hz3 hz4)
            have F2 := Lib.hid (bigq a b c d c2' hW1 hc0 hc1 z1 z2 z3 z4 hz1 hz2 hz3 hz4)
            generalize strOfNums z1 = s1 at *
            generalize strOfNums z2 = s2 at *
            generalize strOfNums z3 = s3 at *
            generalize strOfNums z4 = s4 at *
            have t0 := hT5.cell 4
            have t1 := hT5.cell 5
            have t2 := hT5.cell 6
            have t3 := hT5.cell 7
            go_wp2_with fail
            refine (F1.out _).mono ?_
            rintro e w6 ⟨rfl, hb⟩
            have hT6 := hT5.below hb hT5.lt
            have hS6 := hS5.below hb hS5.lt
            have hB6 := bl hB5 hb
            have q0 := hT6.cell 4
            have q1 := hT6.cell 5
            have q2 := hT6.cell 6
            have q3 := hT6.cell 7
            clear hb t0 t1 t2 t3
            go_wp2_with fail
            refine (F2.out _).mono ?_
            rintro e w7 ⟨rfl, hb⟩
            go_wp2_with fail
            clear hk4 hwu
            go_roundw
            case rel => (repeat apply Exists.intro); exact ⟨⟨n + 1, by omega, by go_num, hT6.below hb hT6.lt, hS6.below hb hS6.lt, bl hB6 hb⟩, rfl⟩
            case measure => simp [intOf]; omega
          · have F1 := Lib.hid (big 18446744073709551615 18446744073709551615 18446744073709551615 18446744073709551615 c2' words_all hc0 hc1 z1 z2 z3 z4 hz1 hz2 hz3 hz4)
            have F2 := Lib.hid (bigq a b c d c2' hW1 hc0 hc1 z1 z2 z3 z4 hz1 hz2 hz3 hz4)
            generalize strOfNums z1 = s1 at *
            generalize strOfNums z2 = s2 at *
            generalize strOfNums z3 = s3 at *
            generalize strOfNums z4 = s4 at *
            have t0 := hT5.cell 8
            have t1 := hT5.cell 9
            have t2 := hT5.cell 10
            have t3 := hT5.cell 11
            go_wp2_with fail
            refine (F1.out _).mono ?_
            rintro e w6 ⟨rfl, hb⟩
            have hT6 := hT5.below hb hT5.lt
            have hS6 := hS5.below hb hS5.lt
            have hB6 := bl hB5 hb
            have q0 := hT6.cell 4
            have q1 := hT6.cell 5
            have q2 := hT6.cell 6
            have q3 := hT6.cell 7
            clear hb t0 t1 t2 t3
            go_wp2_with fail
            refine (F2.out _).mono ?_
            rintro e w7 ⟨rfl, hb⟩
            go_wp2_with fail
            clear hk4 hwu
            go_roundw
            case rel => (repeat apply Exists.intro); exact ⟨⟨n + 1, by omega, by go_num, hT6.below hb hT6.lt, hS6.below hb hS6.lt, bl hB6 hb⟩, rfl⟩
            case measure => simp [intOf]; omega
          · have F1 := Lib.hid (big i3 j3 k3 l3 c2' hW3 hc0 hc1 z1 z2 z3 z4 hz1 hz2 hz3 hz4)
            have F2 := Lib.hid (bigq a b c d c2' hW1 hc0 hc1 z1 z2 z3 z4 hz1 hz2 hz3 hz4)
            generalize strOfNums z1 = s1 at *
            generalize strOfNums z2 = s2 at *
            generalize strOfNums z3 = s3 at *
            generalize strOfNums z4 = s4 at *
            have t0 := hT5.cell 12
            have t1 := hT5.cell 13
            have t2 := hT5.cell 14
            have t3 := hT5.cell 15
            go_wp2_with fail
            refine (F1.out _).mono ?_
            rintro e w6 ⟨rfl, hb⟩
            have hT6 := hT5.below hb hT5.lt
            have hS6 := hS5.below hb hS5.lt
            have hB6 := bl hB5 hb
            have q0 := hT6.cell 4
            have q1 := hT6.cell 5
            have q2 := hT6.cell 6
            have q3 := hT6.cell 7
            clear hb t0 t1 t2 t3
            go_wp2_with fail
            refine (F2.out _).mono ?_
            rintro e w7 ⟨rfl, hb⟩
            go_wp2_with fail
            clear hk4 hwu
            go_roundw
            case rel => (repeat apply Exists.intro); exact ⟨⟨n + 1, by omega, by go_num, hT6.below hb hT6.lt, hS6.below hb hS6.lt, bl hB6 hb⟩, rfl⟩
            case measure => simp [intOf]; omega
        · obtain rfl : n = 6561 := by omega
          go_wp2_with (go_at_call 10; refine (awake_any _).mono ?_; rintro e w8 ⟨rfl, hb8⟩)
          go_ret
          exact ⟨rfl, bl hB hb8⟩
end Go.Proofs.Ytdgihlelopfdeaa
