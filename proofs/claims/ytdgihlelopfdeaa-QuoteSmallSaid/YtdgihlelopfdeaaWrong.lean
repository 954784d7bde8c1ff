/-
  QuoteWrong: the plain laws and the walk.
-/
import Derived.Test.YtdgihlelopfdeaaOr
import Derived.Deep.CutRange
import Derived.Deep.DeepCutAuto
namespace Go.Proofs.Ytdgihlelopfdeaa
open Go.RowKit Q

/-- What is the form of no byte, whatever is behind it. -/
def Bad (m : Int → Bool) (bad : List Int) : Prop := 0 < bad.length ∧ bad.length ≤ 4 ∧ By bad ∧ bad.getD 0 0 ≠ 34 ∧ ∀ rest, rb m (bad ++ rest) = (0, 0, 20)

theorem bad_q (x0 x1 x2 x3 : Int) : Bad (mkd x0 x1 x2 x3) [92, 113] := ⟨by simp, by simp, by_dec _ (by decide), by simp, fun rest => by simp [rb, mkd, letter]⟩
theorem bad_g0 (x0 x1 x2 x3 : Int) : Bad (mkd x0 x1 x2 x3) [92, 120, 103, 48] := ⟨by simp, by simp, by_dec _ (by decide), by simp, fun rest => by simp [rb, mkd, letter, nib]⟩
theorem bad_0g (x0 x1 x2 x3 : Int) : Bad (mkd x0 x1 x2 x3) [92, 120, 48, 103] := ⟨by simp, by simp, by_dec _ (by decide), by simp, fun rest => by simp [rb, mkd, letter, nib]⟩
theorem bad_0 (x0 x1 x2 x3 : Int) : Bad (mkd x0 x1 x2 x3) [92, 48] := ⟨by simp, by simp, by_dec _ (by decide), by simp, fun rest => by simp [rb, mkd, digit]⟩
theorem bad_sp (x0 x1 x2 x3 : Int) (h : mkd x0 x1 x2 x3 32 = false) : Bad (mkd x0 x1 x2 x3) [92, 32] := ⟨by simp, by simp, by_dec _ (by decide), by simp, fun rest => by simp [rb, h]⟩
theorem bad_n (x0 x1 x2 x3 c : Int) (h : c < 32 ∨ 126 < c) (h0 : 0 ≤ c) (h1 : c ≤ 255) : Bad (mkd x0 x1 x2 x3) [c] :=
  ⟨by simp, by simp, by intro x hx; simp at hx; omega, by simp; omega, fun rest => by
    show rb _ (c :: rest) = _
    simp only [rb]
    rw [if_pos (by omega), if_neg (by rintro ⟨a, b, _⟩; omega)]⟩
theorem mq_sp : mkd 17179869184 0 0 0 32 = false := by decide +kernel

theorem rbs_bad (m : Int → Bool) (hm : MkOk m) (bad rest : List Int) (hbd : Bad m bad) : ∀ (a : List Int) (f p : Nat) (acc : List Int), By a → (qbs m a).length < f → rbs m f p acc (qbs m a ++ bad ++ rest) = ([], p + (qbs m a).length, 20)
  | [], f, p, acc, _, h => by
    obtain ⟨f, rfl⟩ : ∃ g, f = g + 1 := ⟨f - 1, by omega⟩
    have hr := hbd.2.2.2.2 rest
    have h0 := hbd.1
    cases bad with
    | nil => simp at h0
    | cons y t =>
      rw [qbs_nil, List.nil_append]
      rw [List.cons_append] at hr ⊢
      rw [rbs, hr]
      simp
  | c :: a, 0, p, acc, _, h => by omega
  | c :: a, f + 1, p, acc, hb, h => by
    have hc := hb c (by simp)
    have := (qb_len (m c) c).1
    rw [qbs_cons, List.length_append] at h
    rw [qbs_cons, List.append_assoc, List.append_assoc, rbs_qb m hm f p acc c hc.1 hc.2, ← List.append_assoc, rbs_bad m hm bad rest hbd a f _ _ (fun x hx => hb x (by simp [hx])) (by omega)]
    simp; omega

theorem unq_wrong (bad rest : List Int) (hbd : Bad mq bad) : ∀ (a : List Int) (f p : Nat) (acc : List Int), By a → a.length < f → unq f p acc (qbs mq a ++ bad ++ rest) = ([], p + (qbs mq a).length, 20)
  | [], f, p, acc, _, h => by
    obtain ⟨f, rfl⟩ : ∃ g, f = g + 1 := ⟨f - 1, by simp at h; omega⟩
    have h0 := hbd.1
    rw [qbs_nil, List.nil_append, unq_bad f p acc _ (by rw [List.length_append]; omega) ?_ (hbd.2.2.2.2 rest)]; rfl
    have := hbd.2.2.2.1
    cases bad with
    | nil => simp at h0
    | cons y t => simpa using this
  | c :: a, 0, p, acc, _, h => by omega
  | c :: a, f + 1, p, acc, hb, h => by
    have hc := hb c (by simp)
    rw [qbs_cons, List.append_assoc, List.append_assoc, unq_step f p acc c hc.1 hc.2, ← List.append_assoc, unq_wrong bad rest hbd a f _ _ (fun x hx => hb x (by simp [hx])) (by simpa using h)]
    simp; omega

theorem unquo_wrong (bad rest a : List Int) (hbd : Bad mq bad) (ha : By a) : unquo ([34] ++ qbs mq a ++ bad ++ rest) = ([], 1 + (qbs mq a).length, 20) := by
  simp only [List.cons_append, List.nil_append]
  rw [unquo, if_pos rfl, unq_wrong bad rest hbd a _ 1 [] ha (by have := (qbs_len mq a).1; have := hbd.1; simp; omega)]

/-- The facts of what is behind the choice of the wrong form. -/
theorem wrong_facts (x0 x1 x2 x3 : Int) (hw : Words x0 x1 x2 x3) (a b bad : List Int) (ha : By a) (hb : By b) (hla : a.length ≤ 100) (hlb : b.length ≤ 100) (h1 : Bad (mkd x0 x1 x2 x3) bad) (h2 : Bad mq bad) :
    (∀ w : World, Calls Try.prog 19 #[.string (strOfNums (qbs (mkd x0 x1 x2 x3) a) ++ strOfNums bad ++ strOfNums b), .agg #[.int .u64 x0, .int .u64 x1, .int .u64 x2, .int .u64 x3]] w fun e w' => e = .returned (.tuple #[.string ⟨#[]⟩, .int .i64 ((qbs (mkd x0 x1 x2 x3) a).length : Int), .int .i64 20]) ∧ Below w.heap.size w w') ∧
    (∀ w : World, Calls Try.prog 15 #[.string (strOfNums (qbs (mkd x0 x1 x2 x3) a) ++ strOfNums bad ++ strOfNums b), .agg #[.int .u64 x0, .int .u64 x1, .int .u64 x2, .int .u64 x3]] w fun e w' => e = .returned (.tuple #[.string ⟨#[]⟩, .int .i64 ((qbs (mkd x0 x1 x2 x3) a).length : Int), .int .i64 20]) ∧ Below w.heap.size w w') ∧
    (∀ w : World, (Instr.slice 9 (.string (strOfNums (qbs (mkd x0 x1 x2 x3) a) ++ strOfNums bad ++ strOfNums b)) (some (.int .i64 ((qbs (mkd x0 x1 x2 x3) a).length : Int))) none none).run Try.prog w = .ok (.string (strOfNums (bad ++ b))) w) ∧
    (∀ w : World, Calls Try.prog 20 #[.string (strOfNums (bad ++ b)), .agg #[.int .u64 x0, .int .u64 x1, .int .u64 x2, .int .u64 x3]] w fun e w' => e = .returned (.tuple #[.int .u8 0, .int .i64 0, .int .i64 20]) ∧ Below w.heap.size w w') ∧
    (∀ w : World, Calls Try.prog 12 #[.string ((⟨#[34]⟩ : ByteArray) ++ strOfNums (qbs (mkd 17179869184 0 0 0) a) ++ strOfNums bad ++ strOfNums b)] w fun e w' => e = .returned (.tuple #[.string ⟨#[]⟩, .int .i64 (1 + ((qbs (mkd 17179869184 0 0 0) a).length : Int)), .int .i64 20]) ∧ Below w.heap.size w w') ∧ (strOfNums bad).size ≤ 4 ∧ (strOfNums b).size ≤ 100 := by
  have hmk := mkd_ok x0 x1 x2 x3
  have hl1 := (qbs_len (mkd x0 x1 x2 x3) a).2
  have hl2 := (qbs_len mq a).2
  have hB1 := by_append (by_append (by_qbs (mkd x0 x1 x2 x3) ha) h1.2.2.1) hb
  have hb4 := h1.2.1
  have hb0 := h1.1
  have hL : (qbs (mkd x0 x1 x2 x3) a ++ bad ++ b).length ≤ 1000 := by simp only [List.length_append]; omega
  have hr := rbs_bad (mkd x0 x1 x2 x3) hmk bad b h1 a (qbs (mkd x0 x1 x2 x3) a ++ bad ++ b).length 0 [] ha (by simp only [List.length_append]; omega)
  refine ⟨fun w => ?_, fun w => ?_, fun w => ?_, fun w => ?_, fun w => ?_, by rw [strOfNums_size]; omega, by rw [strOfNums_size]; omega⟩
  · have h := rbs_any x0 x1 x2 x3 _ w hw hB1 (by omega)
    rw [hr, ← str_append, ← str_append] at h
    dsimp only at h
    rw [Nat.zero_add] at h
    exact h
  · have h := canonical_any x0 x1 x2 x3 _ w hw hB1 (by omega) [] ((qbs (mkd x0 x1 x2 x3) a).length : Int) 20 (by rw [hr]) (by rw [hr]; simp) (by rw [hr]) (by intro x hx; simp at hx) (by simp)
    rw [← str_append, ← str_append, qbs_nil] at h
    exact h
  · rw [str_append, str_append, slice_from _ _ (by simp only [List.length_append]; omega), List.append_assoc, List.drop_left' rfl]
  · have h := rb_is x0 x1 x2 x3 (bad ++ b) w hw (by_append h1.2.2.1 hb) (by rw [List.length_append]; omega)
    unfold RbIs at h
    rw [h1.2.2.2.2 b] at h
    exact h
  · have h := unquo_any ([34] ++ qbs mq a ++ bad ++ b) w (by_append (by_append (by_append (by_dec _ (by decide)) (by_qbs _ ha)) h2.2.2.1) hb) (by simp only [List.length_append, List.length_cons, List.length_nil]; omega)
    rw [unquo_wrong bad b a h2 ha, ← str_append, ← str_append, ← str_append] at h
    have e : ((1 + (qbs mq a).length : Nat) : Int) = 1 + ((qbs mq a).length : Int) := by omega
    rw [e] at h
    exact h

theorem slice100 (xs : List Int) (h : xs.length ≤ 9223372036854775807) (w : World) : (Instr.slice 9 (.string (strOfNums xs)) none (some (.int .i64 (min (xs.length : Int) 100))) none).run Try.prog w = .ok (.string (strOfNums (xs.take 100))) w := by
  rw [show min (xs.length : Int) 100 = ((min xs.length 100 : Nat) : Int) from by omega, slice_to xs _ (by omega)]
  congr 3
  by_cases h : xs.length ≤ 100
  · rw [List.take_of_length_le (by omega), List.take_of_length_le h]
  · congr 1; omega

/-- What is laid in the place of the wrong form. -/
def Way (x0 x1 x2 x3 : Int) (v : Value) : Prop :=
  (v = .string ⟨#[92, 32]⟩) ∨ ∃ bad, v = .string (strOfNums bad) ∧ ((strOfNums bad).toList == [92, 32]) = false ∧ Bad (mkd x0 x1 x2 x3) bad ∧ Bad mq bad

set_option maxRecDepth 100000 in
set_option maxHeartbeats 16000000 in
theorem wrong_any (x0 x1 x2 x3 : Int) (xs ys : List Int) (way : Int) (w : World) (hw : Words x0 x1 x2 x3) (hx : By xs) (hy : By ys) (hc0 : 0 ≤ way) (hc1 : way ≤ 255) (h63 : xs.length ≤ 9223372036854775807) (h64 : ys.length ≤ 9223372036854775807) :
    Calls Try.prog 7 #[.string (strOfNums xs), .string (strOfNums ys), .agg #[.int .u64 x0, .int .u64 x1, .int .u64 x2, .int .u64 x3], .int .u8 way] w fun e w' => e = .returned (.bool true) ∧ Below w.heap.size w w' := by
  have hsx := strOfNums_size xs
  have hsy := strOfNums_size ys
  have hk0 := Blk.new w 24 #[.int .u64 x0, .int .u64 x1, .int .u64 x2, .int .u64 x3]
  have hwy := words_or hw words_q
  have HO := Lib.hid (fun w => or_any x0 x1 x2 x3 17179869184 0 0 0 w)
  generalize bits .or .u64 x0 17179869184 = y0 at *
  generalize bits .or .u64 x1 0 = y1 at *
  generalize bits .or .u64 x2 0 = y2 at *
  generalize bits .or .u64 x3 0 = y3 at *
  go_enter Try.func7, Try.ntmps7
  go_upto_region 3 with (first | (go_at_call 10; refine (awake_any _).mono ?_; rintro e w1 ⟨rfl, hb1⟩))
  have hk1 := (hk0.below hb1 hk0.lt)
  have hB1 : Below w.heap.size w w1 := (bl (by go_grown) hb1)
  have hz1 := hk1.lt
  clear hb1 hk0
  go_cut [6] from 25 to 30 (fun p wx => p = .pointer (some ⟨w.heap.size, 0, none⟩) ∧ Blk wx w.heap.size 24 #[.int .u64 y0, .int .u64 y1, .int .u64 y2, .int .u64 y3] ∧ Below w.heap.size w wx)
  case first =>
    have q0 := hk1.cell 0
    have q1 := hk1.cell 1
    have q2 := hk1.cell 2
    have q3 := hk1.cell 3
    go_region_with (first | (go_at_call 24; refine (of_q _ 5 _ ((Blk.new w1 5 #[.int .u8 34]).drew)).mono ?_; rintro e w2 ⟨rfl, hb2⟩; have hk2 := ((hk1.alloc (.cells #[.int .u8 34] 5)).drew).below hb2 (by simp; omega); have q0 := hk2.cell 0; have q1 := hk2.cell 1; have q2 := hk2.cell 2; have q3 := hk2.cell 3) | (go_at_call 23; refine (HO.out _).mono ?_; rintro e w3 ⟨rfl, hb3⟩; have hk3 := hk2.below hb3 hk2.lt; have f0 := hk3.frozen 0; have f1 := hk3.frozen 1; have f2 := hk3.frozen 2; have f3 := hk3.frozen 3; have p0 := hk3.cell 0; have p1 := hk3.cell 1; have p2 := hk3.cell 2; have p3 := hk3.cell 3))
    all_goals
      go_wp2_with fail
      go_meet
      exact ⟨rfl, ((hk3.set_ 0 _).set_ 1 _).set_ 2 _ |>.set_ 3 _, ((((bl (bl hB1 (bl (by go_grown) hb2)) hb3).setCell (Nat.le_refl _) _).setCell (Nat.le_refl _) _).setCell (Nat.le_refl _) _).setCell (Nat.le_refl _) _⟩
  case rest =>
    obtain ⟨rfl, hk3, hB3⟩ := hcut
    have hz3 := hk3.lt
    clear hk1 hB1 hz1 HO
    have HSX := Lib.hid (fun w => slice100 xs h63 w)
    have HSY := Lib.hid (fun w => slice100 ys h64 w)
    have ha := by_take hx 100
    have hb := by_take hy 100
    have hla : (xs.take 100).length ≤ 100 := by rw [List.length_take]; omega
    have hlb : (ys.take 100).length ≤ 100 := by rw [List.length_take]; omega
    generalize xs.take 100 = a at *
    generalize ys.take 100 = b at *
    have HA := Lib.hid (fun w => bytes_any y0 y1 y2 y3 a w hwy ha (by omega))
    have HQ := Lib.hid (fun w => bytes_any 17179869184 0 0 0 a w words_q ha (by omega))
    have hsl := HSX.out
    have p0 : ∀ p : Bw wc, p.val.cell? ⟨w.heap.size, 0, none⟩ = some (.int .u64 y0) := Bw.cell hz3 (hk3.cell 0)
    have p1 : ∀ p : Bw wc, p.val.cell? ⟨w.heap.size, 1, none⟩ = some (.int .u64 y1) := Bw.cell hz3 (hk3.cell 1)
    have p2 : ∀ p : Bw wc, p.val.cell? ⟨w.heap.size, 2, none⟩ = some (.int .u64 y2) := Bw.cell hz3 (hk3.cell 2)
    have p3 : ∀ p : Bw wc, p.val.cell? ⟨w.heap.size, 3, none⟩ = some (.int .u64 y3) := Bw.cell hz3 (hk3.cell 3)
    go_upto_region 4 with fail
    refine wp_region_bw (by kernel_rfl) (by kernel_rfl) ?_
    repeat (go_big_quiet_step (fail))
    go_big_quiet_step ((go_at_call 18; exact calls_bw (HA.out _)))
    repeat (go_big_quiet_step (fail))
    refine wpQuiet_nil ?_
    rintro _ ⟨p, rfl⟩
    obtain ⟨w2, hb2⟩ := p
    dsimp only
    have hk2 := hk3.below hb2 hk3.lt
    have hB2 := bl hB3 hb2
    clear hb2 hk3 hB3 p0 p1 p2 p3 HA hsl
    go_upto_region 5 with fail
    have hr0 : 0 ≤ way % 7 := by omega
    have hr1 : way % 7 ≤ 6 := by omega
    go_cut [10] from 38 to 42 (fun v wx => Way y0 y1 y2 y3 v ∧ Blk wx w.heap.size 24 #[.int .u64 y0, .int .u64 y1, .int .u64 y2, .int .u64 y3] ∧ Below w.heap.size w wx)
    case first =>
      have hn : way % 7 = 0 ∨ way % 7 = 1 ∨ way % 7 = 2 ∨ way % 7 = 3 ∨ way % 7 = 4 ∨ way % 7 = 5 ∨ way % 7 = 6 := by omega
      have hBw : ∀ o : Obj, Blk (w2.alloc o) w.heap.size 24 #[.int .u64 y0, .int .u64 y1, .int .u64 y2, .int .u64 y3] ∧ Below w.heap.size w (w2.alloc o) := fun o => ⟨hk2.alloc o, hB2.alloc (by have := hk2.lt; omega) o⟩
      clear hr0 hr1
      rcases hn with hn | hn | hn | hn | hn | hn | hn
      · go_wp2_with fail
        go_meet
        exact ⟨.inr ⟨[92, 113], rfl, by decide +kernel, bad_q _ _ _ _, bad_q _ _ _ _⟩, hBw _⟩
      · go_wp2_with fail
        go_meet
        exact ⟨.inr ⟨[92, 120, 103, 48], rfl, by decide +kernel, bad_g0 _ _ _ _, bad_g0 _ _ _ _⟩, hBw _⟩
      · go_wp2_with fail
        go_meet
        exact ⟨.inr ⟨[92, 120, 48, 103], rfl, by decide +kernel, bad_0g _ _ _ _, bad_0g _ _ _ _⟩, hBw _⟩
      · go_wp2_with fail
        go_meet
        exact ⟨.inl rfl, hBw _⟩
      · go_wp2_with fail
        go_meet
        exact ⟨.inr ⟨[0], rfl, by decide +kernel, bad_n _ _ _ _ 0 (by omega) (by omega) (by omega), bad_n _ _ _ _ 0 (by omega) (by omega) (by omega)⟩, hBw _⟩
      · go_wp2_with fail
        go_meet
        exact ⟨.inr ⟨[255], rfl, by decide +kernel, bad_n _ _ _ _ 255 (by omega) (by omega) (by omega), bad_n _ _ _ _ 255 (by omega) (by omega) (by omega)⟩, hBw _⟩
      · go_wp2_with fail
        go_meet
        exact ⟨.inr ⟨[10], rfl, by decide +kernel, bad_n _ _ _ _ 10 (by omega) (by omega) (by omega), bad_n _ _ _ _ 10 (by omega) (by omega) (by omega)⟩, hBw _⟩
    case rest =>
      obtain ⟨hv, hk4, hB4⟩ := hcut
      have q0 := hk4.cell 0
      have q1 := hk4.cell 1
      have q2 := hk4.cell 2
      have q3 := hk4.cell 3
      clear hk2 hB2 hr0 hr1
      have hqa := strOfNums_size (qbs (mkd y0 y1 y2 y3) a)
      have hqq := strOfNums_size (qbs (mkd 17179869184 0 0 0) a)
      have hqal := (qbs_len (mkd y0 y1 y2 y3) a).2
      have hqql := (qbs_len (mkd 17179869184 0 0 0) a).2
      go_upto_region 6 with fail
      go_cut [10, 48] from 43 to 48 (fun v t wx => (∃ g : Bool, t = .bool g ∧ (g = false → ∃ bad, v = .string (strOfNums bad) ∧ Bad (mkd y0 y1 y2 y3) bad ∧ Bad mq bad)) ∧ Blk wx w.heap.size 24 #[.int .u64 y0, .int .u64 y1, .int .u64 y2, .int .u64 y3] ∧ Below w.heap.size w wx)
      case first =>
        rcases hv with rfl | ⟨bad, rfl, hne, hbd1, hbd2⟩
        · have HC := Lib.hid (fun w => counts_any y0 y1 y2 y3 32 w hwy (by omega) (by omega))
          cases hm : mkd y0 y1 y2 y3 32 with
          | false =>
            rw [hm] at HC
            have HM := Lib.hid hm
            clear hm
            go_wp2_with (go_at_call 22; refine (HC.out _).mono ?_; rintro e w5 ⟨rfl, hb5⟩)
            go_meet
            exact ⟨⟨false, rfl, fun _ => ⟨[92, 32], rfl, bad_sp _ _ _ _ HM.out, bad_sp _ _ _ _ mq_sp⟩⟩, hk4.below hb5 hk4.lt, bl hB4 hb5⟩
          | true =>
            rw [hm] at HC
            clear hm
            go_wp2_with (go_at_call 22; refine (HC.out _).mono ?_; rintro e w5 ⟨rfl, hb5⟩)
            go_meet
            exact ⟨⟨true, rfl, fun h => by cases h⟩, hk4.below hb5 hk4.lt, bl hB4 hb5⟩
        · go_wp2_with fail
          go_meet
          exact ⟨⟨false, rfl, fun _ => ⟨bad, rfl, hbd1, hbd2⟩⟩, hk4, hB4⟩
      case rest =>
        obtain ⟨⟨g, rfl, hg⟩, hk5, hB5⟩ := hcut
        clear hk4 hB4 hv q0 q1 q2 q3
        go_upto_if 48 with fail
        go_cut [10] from 49 to 57 (fun v wx => (∃ bad, v = .string (strOfNums bad) ∧ Bad (mkd y0 y1 y2 y3) bad ∧ Bad mq bad) ∧ Blk wx w.heap.size 24 #[.int .u64 y0, .int .u64 y1, .int .u64 y2, .int .u64 y3] ∧ Below w.heap.size w wx)
        case first =>
          cases g with
          | false =>
            go_wp2_with fail
            go_meet
            exact ⟨hg (by simp), hk5, hB5⟩
          | true =>
            go_wp2_with fail
            go_meet
            exact ⟨⟨[92, 48], rfl, bad_0 _ _ _ _, bad_0 _ _ _ _⟩, hk5, hB5⟩
        case rest =>
          obtain ⟨⟨bad, rfl, hbd1, hbd2⟩, hk6, hB6⟩ := hcut
          clear hk5 hB5 hg
          obtain ⟨h1, h2, h3, h4, h5, h6, h7⟩ := wrong_facts y0 y1 y2 y3 hwy a b bad ha hb hla hlb hbd1 hbd2
          have H1 := Lib.hid h1
          have H2 := Lib.hid h2
          have H4 := Lib.hid h4
          have H5 := Lib.hid h5
          have H3 := Lib.hid h3
          clear h1 h2 h3 h4 h5 hbd1 hbd2 ha hb
          have hslx := HSX.out
          have hsly := HSY.out
          have q0 := hk6.cell 0
          have q1 := hk6.cell 1
          have q2 := hk6.cell 2
          have q3 := hk6.cell 3

          generalize strOfNums (bad ++ b) = stail at *
          generalize strOfNums bad = sbad at *
          generalize strOfNums b = sb at *
          generalize strOfNums (qbs (mkd 17179869184 0 0 0) a) = sq at *
          generalize strOfNums (qbs (mkd y0 y1 y2 y3) a) = sy at *
          generalize (qbs (mkd y0 y1 y2 y3) a).length = ly at *
          generalize (qbs (mkd 17179869184 0 0 0) a).length = lq at *
          go_wp2_with fail
          refine (H1.out _).mono ?_
          rintro e w7 ⟨rfl, hb7⟩
          have hk7 := hk6.below hb7 hk6.lt
          have hB7 := bl hB6 hb7
          have q0 := hk7.cell 0
          have q1 := hk7.cell 1
          have q2 := hk7.cell 2
          have q3 := hk7.cell 3
          clear hb7 hk6 hB6 H1
          go_wp2_with fail
          refine (H2.out _).mono ?_
          rintro e w8 ⟨rfl, hb8⟩
          have hk8 := hk7.below hb8 hk7.lt
          have hB8 := bl hB7 hb8
          clear hb8 hk7 hB7 H2
          have hz8 := hk8.lt
          have p0 : ∀ p : Bw w8, p.val.cell? ⟨w.heap.size, 0, none⟩ = some (.int .u64 y0) := Bw.cell hz8 (hk8.cell 0)
          have p1 : ∀ p : Bw w8, p.val.cell? ⟨w.heap.size, 1, none⟩ = some (.int .u64 y1) := Bw.cell hz8 (hk8.cell 1)
          have p2 : ∀ p : Bw w8, p.val.cell? ⟨w.heap.size, 2, none⟩ = some (.int .u64 y2) := Bw.cell hz8 (hk8.cell 2)
          have p3 : ∀ p : Bw w8, p.val.cell? ⟨w.heap.size, 3, none⟩ = some (.int .u64 y3) := Bw.cell hz8 (hk8.cell 3)
          have h3 := H3.out
          go_upto_region 11 with fail
          refine wp_region_bw (by kernel_rfl) (by kernel_rfl) ?_
          repeat (go_big_quiet_step (fail))
          go_big_quiet_step ((go_at_call 20; exact calls_bw (H4.out _)))
          repeat (go_big_quiet_step (fail))
          refine wpQuiet_nil ?_
          rintro _ ⟨p, rfl⟩
          obtain ⟨w9, hb9⟩ := p
          dsimp only
          have hB9 := bl hB8 hb9
          clear hb9 p0 p1 p2 p3 H4 h3 hk8 hB8
          go_upto_region 12 with fail
          go_cut [21] from 82 to 89 (fun v wx => v = .string sq ∧ Below w.heap.size w wx)
          case first =>
            go_region_with (first | (go_at_call 24; refine (of_q _ 5 _ ((Blk.new w9 5 #[.int .u8 34]).drew)).mono ?_; rintro e w2 ⟨rfl, hb2⟩) | (go_at_call 18; refine (HQ.out _).mono ?_; rintro e w3 ⟨rfl, hb3⟩))
            all_goals
              go_wp2_with fail
              go_meet
              exact ⟨rfl, bl (bl hB9 (bl (by go_grown) hb2)) hb3⟩
          case rest =>
            obtain ⟨rfl, hB10⟩ := hcut
            clear hB9 HQ
            go_wp2_with fail
            refine (H5.out _).mono ?_
            rintro e w11 ⟨rfl, hb11⟩
            have hB11 := bl hB10 hb11
            clear hb11 hB10 H5
            have he0 : ((⟨#[]⟩ : ByteArray) ++ ⟨#[]⟩) = ⟨#[]⟩ := rfl
            go_wp2_with fail
            go_ret
            exact ⟨rfl, hB11⟩
theorem wf8 {n : Int} : (Lit.int .u8 n).wf = true ↔ 0 ≤ n ∧ n ≤ 255 := by
  simp [Lit.wf, IntKind.min, IntKind.max, IntKind.signed, IntKind.bits]
end Go.Proofs.Ytdgihlelopfdeaa
