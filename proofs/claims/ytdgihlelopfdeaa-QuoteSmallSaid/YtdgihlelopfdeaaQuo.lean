/-
  quote.Quote, quote.Canonical, quote.Unquote.
-/
import Derived.Test.YtdgihlelopfdeaaOf
namespace Go.Proofs.Ytdgihlelopfdeaa
open Go.RowKit Q

/-- The mark of a text in quotes. -/
def mq : Int → Bool := mkd 17179869184 0 0 0
theorem words_q : Words 17179869184 0 0 0 := by unfold Words; omega
theorem of_q (b t : Nat) (w : World) (hB : Blk w b t #[.int .u8 34]) :
    Calls Try.prog 24 #[.slice (some ⟨b, 0, none⟩) 1 1] w fun e w' => e = .returned (.agg #[.int .u64 17179869184, .int .u64 0, .int .u64 0, .int .u64 0]) ∧ Below w.heap.size w w' := by
  have h := of_any [34] b t 1 w (by intro x hx; simp at hx; omega) rfl (by simp) hB
  rw [show ofw [34] = (17179869184, 0, 0, 0) from by decide +kernel] at h
  exact h

/-- The form of bytes in quotes. -/
def quo (xs : List Int) : List Int := [34] ++ qbs mq xs ++ [34]
theorem str34 : (⟨#[34]⟩ : ByteArray) = strOfNums [34] := rfl

set_option maxHeartbeats 1000000 in
theorem quote_any (xs : List Int) (w : World) (hb : By xs) (hl : xs.length ≤ 1000000) :
    Calls Try.prog 11 #[.string (strOfNums xs)] w fun e w' => e = .returned (.string (strOfNums (quo xs))) ∧ Below w.heap.size w w' := by
  have hS : Hid ((⟨#[34]⟩ : ByteArray) ++ strOfNums (qbs (mkd 17179869184 0 0 0) xs) ++ ⟨#[34]⟩ = strOfNums (quo xs)) := by
    show _ = _
    rw [str34, str_append, str_append]; rfl
  have hq := (qbs_len (mkd 17179869184 0 0 0) xs).2
  have hz := strOfNums_size (qbs (mkd 17179869184 0 0 0) xs)
  go_enter Try.func11, Try.ntmps11
  go_wp2_with (first | (go_at_call 24; refine (of_q _ 5 _ (Blk.new _ _ _)).mono ?_; rintro e w1 ⟨rfl, hb1⟩) | (go_at_call 18; refine (bytes_any 17179869184 0 0 0 xs _ words_q hb hl).mono ?_; rintro e w2 ⟨rfl, hb2⟩))
  go_ret
  exact ⟨by rw [← hS.out]; rfl, bl (bl (by go_grown) hb1) hb2⟩

set_option maxHeartbeats 1000000 in
theorem canonical_any (x0 x1 x2 x3 : Int) (xs : List Int) (w : World) (hw : Words x0 x1 x2 x3) (hb : By xs) (hl : xs.length ≤ 1000000) (ys : List Int) (n e : Int)
    (hr : ys = (rbs (mkd x0 x1 x2 x3) xs.length 0 [] xs).1) (hn : n = ((rbs (mkd x0 x1 x2 x3) xs.length 0 [] xs).2.1 : Int)) (he : e = (rbs (mkd x0 x1 x2 x3) xs.length 0 [] xs).2.2) (hby : By ys) (hyl : ys.length ≤ 1000000) :
    Calls Try.prog 15 #[.string (strOfNums xs), .agg #[.int .u64 x0, .int .u64 x1, .int .u64 x2, .int .u64 x3]] w fun en w' => en = .returned (.tuple #[.string (strOfNums (qbs (mkd x0 x1 x2 x3) ys)), .int .i64 n, .int .i64 e]) ∧ Below w.heap.size w w' := by
  have hR := Lib.hid (fun w => rbs_any x0 x1 x2 x3 xs w hw hb (by omega))
  rw [← hr, ← hn, ← he] at hR
  clear hr hn he
  go_enter Try.func15, Try.ntmps15
  go_wp2_with (first | (go_at_call 19; refine (hR.out _).mono ?_; rintro e w1 ⟨rfl, hb1⟩; have hq := (Blk.new w 24 #[.int .u64 x0, .int .u64 x1, .int .u64 x2, .int .u64 x3]).below hb1 (by simp); have q0 := hq.cell 0; have q1 := hq.cell 1; have q2 := hq.cell 2; have q3 := hq.cell 3) | (go_at_call 18; refine (bytes_any x0 x1 x2 x3 ys _ hw hby hyl).mono ?_; rintro e w2 ⟨rfl, hb2⟩))
  go_ret3
  exact ⟨rfl, bl (bl (by go_grown) hb1) hb2⟩

theorem own_ge {w : World} {base : Nat} {e : TypeId} {size : Nat} {v : Value} {n : Nat} {xs : List Value} (h : w.ownsRow base e size v n xs) (j : Nat) (ej : v.ownBlock = some j) : base ≤ j := by
  rcases h.2 with ⟨rfl, _⟩ | ⟨g, cap, cur, rfl, hg, _, _⟩
  · simp [Value.ownBlock] at ej
  · obtain rfl : g = j := by simpa [Value.ownBlock] using ej
    exact hg

/-- What Unquote answers behind the first quote: fuel, the index, what has been read, what is left. -/
def unq : Nat → Nat → List Int → List Int → List Int × Nat × Int
  | 0, p, _, _ => ([], p, 21)
  | _ + 1, p, _, [] => ([], p, 21)
  | f + 1, p, acc, x :: t =>
    if x = 34 then (acc, p + 1, 0)
    else if (rb mq (x :: t)).2.2 = 0 then unq f (p + (rb mq (x :: t)).2.1.toNat) (acc ++ [(rb mq (x :: t)).1]) ((x :: t).drop (rb mq (x :: t)).2.1.toNat)
    else ([], p, 20)
def unquo : List Int → List Int × Nat × Int
  | [] => ([], 0, 21)
  | x :: t => if x = 34 then unq (t.length + 1) 1 [] t else ([], 0, 21)
theorem unq_nil (f p : Nat) (acc : List Int) : unq f p acc [] = ([], p, 21) := by cases f <;> rfl
theorem unq_quote (f p : Nat) (acc xs : List Int) (h : 0 < xs.length) (hx : xs.getD 0 0 = 34) : unq (f + 1) p acc xs = (acc, p + 1, 0) := by
  cases xs with
  | nil => simp at h
  | cons x t => simp at hx; subst hx; simp [unq]
theorem unq_ok (f p : Nat) (acc xs : List Int) (h : 0 < xs.length) (hx : xs.getD 0 0 ≠ 34) (c n : Int) (hr : rb mq xs = (c, n, 0)) : unq (f + 1) p acc xs = unq f (p + n.toNat) (acc ++ [c]) (xs.drop n.toNat) := by
  cases xs with
  | nil => simp at h
  | cons x t => simp at hx; rw [unq, if_neg hx, hr]; simp
theorem unq_bad (f p : Nat) (acc xs : List Int) (h : 0 < xs.length) (hx : xs.getD 0 0 ≠ 34) (hr : rb mq xs = (0, 0, 20)) : unq (f + 1) p acc xs = ([], p, 20) := by
  cases xs with
  | nil => simp at h
  | cons x t => simp at hx; rw [unq, if_neg hx, hr]; simp

set_option maxHeartbeats 1000000 in
theorem unquo_no (xs : List Int) (w : World) (hb : By xs) (hx : xs = [] ∨ (0 < xs.length ∧ xs.getD 0 0 ≠ 34)) :
    Calls Try.prog 12 #[.string (strOfNums xs)] w fun e w' => e = .returned (.tuple #[.string ⟨#[]⟩, .int .i64 0, .int .i64 21]) ∧ Below w.heap.size w w' := by
  rcases hx with rfl | ⟨h0, hx⟩
  · rw [show strOfNums [] = (⟨#[]⟩ : ByteArray) from rfl]
    go_enter Try.func12, Try.ntmps12
    go_wp2_with fail
    go_ret3
    exact ⟨rfl, by go_grown⟩
  · obtain ⟨c, hc⟩ : ∃ c, xs.getD 0 0 = c := ⟨_, rfl⟩
    have i0 := idx_lit hb 0 h0 c 0 rfl hc
    have hne := str_nonempty h0
    rw [hc] at hx
    have hx1 : (c != 34) = true := by simpa using hx
    go_enter Try.func12, Try.ntmps12
    go_wp2_with fail
    go_ret3
    exact ⟨rfl, by go_grown⟩

set_option maxRecDepth 100000 in
set_option maxHeartbeats 4000000 in
theorem unquo_loop (xs : List Int) (w : World) (hb : By xs) (hl : xs.length ≤ 1000000) (h0 : 0 < xs.length) (hx : xs.getD 0 0 = 34) (r : List Int × Nat × Int) (hr : unq xs.length 1 [] (xs.drop 1) = r) :
    Calls Try.prog 12 #[.string (strOfNums xs)] w fun e w' => e = .returned (.tuple #[.string (strOfNums r.1), .int .i64 (r.2.1 : Int), .int .i64 r.2.2]) ∧ Below w.heap.size w w' := by
  have i0 := idx_lit hb 0 h0 34 0 rfl hx
  have hne := str_nonempty h0
  have hsz := strOfNums_size xs
  have HR := Lib.hid hr
  clear hr hx
  obtain ⟨i5, hi, hz0, hz1, hz2⟩ := info_parts info5
  go_enter Try.func12, Try.ntmps12
  go_wp2_with fail
  go_loopw [5, 6] (fun v i wr => ∃ (k f : Nat) (acc : List Int), 1 ≤ k ∧ k ≤ xs.length ∧ xs.length ≤ k + f ∧ i = .int .i64 k ∧ unq xs.length 1 [] (xs.drop 1) = unq f k acc (xs.drop k) ∧ wr.ownsRow w.heap.size 5 1 v acc.length (acc.map (Value.int .u8)) ∧ acc.length ≤ k ∧ Below w.heap.size w wr)
    (fun v i _ => xs.length - (intOf i).toNat)
  case atStart => exact ⟨1, xs.length, [], Nat.le_refl _, h0, by omega, rfl, rfl, World.ownsRow_nil _ _ _ _, by simp, by go_grown⟩
  case round =>
    obtain ⟨k, f, acc, hk1, hk, hf, rfl, hu, hrow, hak, hbw⟩ := hrel
    have hz := hbw.size
    by_cases hlt : k < xs.length
    · obtain ⟨f, rfl⟩ : ∃ g, f = g + 1 := ⟨f - 1, by omega⟩
      have hix := idx_any hb k hlt
      have hsl := slice_from xs k hk
      have hd0 : (xs.drop k).getD 0 0 = xs.getD k 0 := by simp [List.getD_eq_getElem?_getD]
      have hdl : (xs.drop k).length = xs.length - k := List.length_drop
      have hU := Lib.hid hu
      clear hu
      by_cases hq : xs.getD k 0 = 34
      · have hu2 := Lib.hid (unq_quote f k acc (xs.drop k) (by omega) (hd0.trans hq))
        rw [hq] at hix
        clear hq hd0
        have hcv := conv_row acc hrow
        go_wp2_with fail
        go_ret3
        refine ⟨?_, hbw⟩
        rw [← HR.out, hU.out, hu2.out]
        rfl
      · have hRB := Lib.hid (fun w => rb_is 17179869184 0 0 0 (xs.drop k) w words_q (by_drop hb k) (by omega))
        have hf2 := (rb_facts mq (xs.drop k) (by_drop hb k)).2
        rcases hf2 with ⟨h1, h2, h3⟩ | hbad
        · obtain ⟨c, n', e', hr⟩ : ∃ c n' e', rb mq (xs.drop k) = (c, n', e') := ⟨_, _, _, rfl⟩
          rw [hr] at h1 h2 h3
          rw [show mkd 17179869184 0 0 0 = mq from rfl, hr] at hRB
          dsimp only at h1 h2 h3
          subst h1
          have hst := Lib.hid (unq_ok f k acc (xs.drop k) (by omega) (by rw [hd0]; exact hq) c n' hr)
          clear hr hd0
          generalize xs.getD k 0 = c0 at *
          have hq0 : (c0 == 34) = false := beq_eq_false_iff_ne.2 hq
          clear hq
          go_wp2_with fail
          go_region_with (first | (go_at_call 24; refine (of_q _ 5 _ ((Blk.new wr 5 #[.int .u8 34]).drew)).mono ?_; rintro e w1 ⟨rfl, hb1⟩) | (go_at_call 20; refine (hRB.out _).mono ?_; rintro e w2 ⟨rfl, hb2⟩))
          have hz1' := hb1.size
          have hz2' := hb2.size
          have hza : wr.heap.size < w1.heap.size := by simp at hz1'; omega
          have hbb : Below wr.heap.size wr w2 := bl (bl (by go_grown) hb1) hb2
          have hrow2 := own_below hrow hbb
          have hbw2 : Below w.heap.size w w2 := hbw.trans (hbb.mono hz)
          have hml : acc.length + 1 ≤ maxLen := by unfold maxLen; omega
          go_wp2_with (at_builtin; refine wpList_append_own _ rfl _ _ 33 rfl w.heap.size 5 i5 (.int .u8 0) 1 1 Try.underlying33 hi hz0 hz1 hz2 rfl (by decide) _ _ _ rfl (hrow2.alloc _) ⟨w2.heap.size, 0, none⟩ 1 1 [.int .u8 c] rfl rfl (cell_one_new _ _ _) (by simp [Value.oneCell']) hml (by omega) (by simp; omega) ?_; intro v' w3 hown' hgrow _)
          go_roundw
          case rel =>
            refine ⟨k + n'.toNat, f, acc ++ [c], by omega, by omega, by omega, by congr 1; omega, by rw [hU.out, hst.out, List.drop_drop], by simpa using hown', by simp; omega, ?_⟩
            refine hbw2.trans (((Below.refl w.heap.size w2).alloc (by omega) _).grown hgrow (by simp; omega) fun j ej => ?_)
            exact own_ge hrow2 j ej
          case measure => simp [intOf]; omega
        · have hst := Lib.hid (unq_bad f k acc (xs.drop k) (by omega) (by rw [hd0]; exact hq) hbad)
          rw [show mkd 17179869184 0 0 0 = mq from rfl, hbad] at hRB
          clear hbad hd0
          generalize xs.getD k 0 = c0 at *
          have hq0 : (c0 == 34) = false := beq_eq_false_iff_ne.2 hq
          clear hq
          go_wp2_with fail
          go_region_with (first | (go_at_call 24; refine (of_q _ 5 _ ((Blk.new wr 5 #[.int .u8 34]).drew)).mono ?_; rintro e w1 ⟨rfl, hb1⟩) | (go_at_call 20; refine (hRB.out _).mono ?_; rintro e w2 ⟨rfl, hb2⟩))
          have hbb : Below wr.heap.size wr w2 := bl (bl (by go_grown) hb1) hb2
          go_wp2_with fail
          go_ret3
          refine ⟨?_, hbw.trans (hbb.mono hz)⟩
          rw [← HR.out, hU.out, hst.out]
          rfl
    · obtain rfl : k = xs.length := by omega
      rw [List.drop_length, unq_nil] at hu
      have hU := Lib.hid hu
      clear hu
      go_wp2_with fail
      go_ret3
      refine ⟨?_, hbw⟩
      rw [← HR.out, hU.out]
      rfl
theorem rb_q (xs : List Int) (r : List Int × Nat × Int) (h0 : 0 < xs.length) (h : unq xs.length 1 [] (xs.drop 1) = r) (hx : xs.getD 0 0 = 34) : unquo xs = r := by
  cases xs with
  | nil => simp at h0
  | cons x t => simp at hx; subst hx; rw [unquo, if_pos rfl]; simpa using h

/-- quote.Unquote. -/
theorem unquo_any (xs : List Int) (w : World) (hb : By xs) (hl : xs.length ≤ 1000000) :
    Calls Try.prog 12 #[.string (strOfNums xs)] w fun e w' => e = .returned (.tuple #[.string (strOfNums (unquo xs).1), .int .i64 ((unquo xs).2.1 : Int), .int .i64 (unquo xs).2.2]) ∧ Below w.heap.size w w' := by
  cases xs with
  | nil => exact unquo_no [] w hb (.inl rfl)
  | cons x t =>
    by_cases h : x = 34
    · have e : unquo (x :: t) = unq (x :: t).length 1 [] ((x :: t).drop 1) := by rw [unquo, if_pos h]; rfl
      rw [e]
      exact unquo_loop (x :: t) w hb hl (by simp) (by simpa using h) _ rfl
    · have e : unquo (x :: t) = ([], 0, 21) := by rw [unquo, if_neg h]
      rw [e]
      exact unquo_no (x :: t) w hb (.inr ⟨by simp, by simpa using h⟩)
end Go.Proofs.Ytdgihlelopfdeaa
