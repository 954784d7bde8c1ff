/-
  The reference of quote: ReadBytes, Unquote.
-/
import Derived.Test.YtdgihlelopfdeaaRefI
namespace Go.Proofs.Ytdgihlelopfdeaa
open Go.RowKit Q

theorem rrd_is (S : Array Value) (h : Int → Bool) (xs : List Int) (w : World) (hS : Rs S h) (hb : By xs) (hl : xs.length ≤ 1000000000) (r : Int × Int × Int) (hr : rb (mkr h) xs = r) :
    Calls Try.prog 27 #[.string (strOfNums xs), .agg S] w fun e w' => e = .returned (.tuple #[.int .u8 r.1, .int .i64 r.2.1, .int .i64 r.2.2]) ∧ Below w.heap.size w w' :=
  rrd_any S h xs w hS hb hl r ((rdr_rb h xs hb).trans hr)

theorem rbs_ok (m : Int → Bool) (f p : Nat) (acc xs : List Int) (h : 0 < xs.length) (c n : Int) (hr : rb m xs = (c, n, 0)) : rbs m (f + 1) p acc xs = rbs m f (p + n.toNat) (acc ++ [c]) (xs.drop n.toNat) := by
  cases xs with
  | nil => simp at h
  | cons x t => rw [rbs, hr]; simp
theorem rbs_no (m : Int → Bool) (f p : Nat) (acc xs : List Int) (h : 0 < xs.length) (hr : rb m xs = (0, 0, 20)) : rbs m (f + 1) p acc xs = ([], p, 20) := by
  cases xs with
  | nil => simp at h
  | cons x t => rw [rbs, hr]; simp
theorem rbs_nil (m : Int → Bool) (f p : Nat) (acc : List Int) : rbs m f p acc [] = (acc, p, 0) := by cases f <;> rfl

set_option maxRecDepth 100000 in
set_option maxHeartbeats 8000000 in
/-- ReadBytes of the reference. -/
theorem rrbs_any (S : Array Value) (h : Int → Bool) (xs : List Int) (w : World) (hS : Rs S h) (hb : By xs) (hl : xs.length ≤ 1000000) (r : List Int × Nat × Int) (hr : rbs (mkr h) xs.length 0 [] xs = r) :
    Calls Try.prog 28 #[.string (strOfNums xs), .agg S] w fun e w' => e = .returned (.tuple #[.string (strOfNums r.1), .int .i64 (r.2.1 : Int), .int .i64 r.2.2]) ∧ Below w.heap.size w w' := by
  have hsz := strOfNums_size xs
  have HR := Lib.hid hr
  clear hr
  have HS := Lib.hid hS
  have hs := Lib.hid hS.1
  clear hS
  obtain ⟨i5, hi, hz0, hz1, hz2⟩ := info_parts info5
  have hK0 := Blk.new w 60 S
  go_enter Try.func28, Try.ntmps28
  go_wp2_with fail
  go_loopw [7, 8] (fun v i wr => ∃ (k f : Nat) (acc : List Int), k ≤ xs.length ∧ xs.length ≤ k + f ∧ i = .int .i64 k ∧ rbs (mkr h) xs.length 0 [] xs = rbs (mkr h) f k acc (xs.drop k) ∧ wr.ownsRow (w.heap.size + 1) 5 1 v acc.length (acc.map (Value.int .u8)) ∧ acc.length ≤ k ∧ Blk wr w.heap.size 60 S ∧ Below w.heap.size w wr)
    (fun v i _ => xs.length - (intOf i).toNat)
  case atStart => exact ⟨0, xs.length, [], by omega, by omega, rfl, by simp, World.ownsRow_nil _ _ _ _, by simp, hK0, by go_grown⟩
  case round =>
    clear hK0
    obtain ⟨k, f, acc, hk, hf, rfl, hu, hrow, hak, hK, hbw⟩ := hrel
    have hz := hK.lt
    have hU := Lib.hid hu
    clear hu
    by_cases hlt : k < xs.length
    · obtain ⟨f, rfl⟩ : ∃ g, f = g + 1 := ⟨f - 1, by omega⟩
      have hsl := slice_from xs k hk
      have hdl : (xs.drop k).length = xs.length - k := List.length_drop
      have hf2 := (rb_facts (mkr h) (xs.drop k) (by_drop hb k)).2
      rcases hf2 with ⟨h1, h2, h3⟩ | hbad
      · obtain ⟨c, n', e', hr⟩ : ∃ c n' e', rb (mkr h) (xs.drop k) = (c, n', e') := ⟨_, _, _, rfl⟩
        have HRB := Lib.hid (fun w => rrd_is S h (xs.drop k) w HS.out (by_drop hb k) (by omega) _ hr)
        rw [hr] at h1 h2 h3
        dsimp only at h1 h2 h3
        subst h1
        have hst := Lib.hid (rbs_ok (mkr h) f k acc (xs.drop k) (by omega) c n' hr)
        clear hr
        dsimp only at HRB
        go_upto_region 4 with fail
        refine wp_region_bw (by kernel_rfl) (by kernel_rfl) ?_
        repeat (go_big_quiet_step (fail))
        refine wpQuiet_byK (.agg S) rfl (quiet_load60 (.tmp 3) rfl rfl hs.out (bw_blk hK)) (fun K hK => ?_)
        go_simp
        refine hK _ ?_
        clear hK K
        go_big_quiet_step ((go_at_call 27; exact calls_bw (HRB.out _)))
        repeat (go_big_quiet_step (fail))
        refine wpQuiet_nil ?_
        rintro _ ⟨p, rfl⟩
        obtain ⟨w2, hb2⟩ := p
        dsimp only
        have hrow2 := own_below hrow hb2
        have hK2 := hK.below hb2 hK.lt
        have hbw2 := bl hbw hb2
        have hz2' := hK2.lt
        have hml : acc.length + 1 ≤ maxLen := by unfold maxLen; omega
        clear hrow hK hbw HRB hsl
        go_wp2_with (at_builtin; refine wpList_append_own _ rfl _ _ 33 rfl (w.heap.size + 1) 5 i5 (.int .u8 0) 1 1 Try.underlying33 hi hz0 hz1 hz2 rfl (by decide) _ _ _ rfl (hrow2.alloc _) ⟨w2.heap.size, 0, none⟩ 1 1 [.int .u8 c] rfl rfl (cell_one_new _ _ _) (by simp [Value.oneCell']) hml (by omega) (by simp; omega) ?_; intro v' w3 hown' hgrow _)
        go_roundw
        case rel =>
          refine ⟨k + n'.toNat, f, acc ++ [c], by omega, by omega, by congr 1; omega, by rw [hU.out, hst.out, List.drop_drop], by simpa using hown', by simp; omega, (hK2.alloc _).grown hgrow (fun e => own_blk_ne hrow2 hK2 (by decide) e.symm), ?_⟩
          exact (hbw2.alloc (by omega) _).grown hgrow (by simp; omega) (fun j ej => by have := own_ge hrow2 j ej; omega)
        case measure => simp [intOf]; omega
      · have HRB := Lib.hid (fun w => rrd_is S h (xs.drop k) w HS.out (by_drop hb k) (by omega) _ hbad)
        have hst := Lib.hid (rbs_no (mkr h) f k acc (xs.drop k) (by omega) hbad)
        clear hbad
        dsimp only at HRB
        go_upto_region 4 with fail
        refine wp_region_bw (by kernel_rfl) (by kernel_rfl) ?_
        repeat (go_big_quiet_step (fail))
        refine wpQuiet_byK (.agg S) rfl (quiet_load60 (.tmp 3) rfl rfl hs.out (bw_blk hK)) (fun K hK => ?_)
        go_simp
        refine hK _ ?_
        clear hK K
        go_big_quiet_step ((go_at_call 27; exact calls_bw (HRB.out _)))
        repeat (go_big_quiet_step (fail))
        refine wpQuiet_nil ?_
        rintro _ ⟨p, rfl⟩
        obtain ⟨w2, hb2⟩ := p
        dsimp only
        go_wp2_with fail
        go_ret3
        refine ⟨?_, bl hbw hb2⟩
        rw [← HR.out, hU.out, hst.out]
        rfl
    · obtain rfl : k = xs.length := by omega
      have hcv := conv_row acc hrow
      have HRO := Lib.hid hrow
      clear hrow
      go_wp2_with fail
      go_ret3
      refine ⟨?_, hbw⟩
      rw [← HR.out, hU.out, List.drop_length, rbs_nil]
      rfl

theorem mq_eq : mkr (fun c => decide (c = 34)) = mq := by
  funext c
  by_cases h : 32 ≤ c ∧ c ≤ 126
  · obtain ⟨n, rfl⟩ := Int.eq_ofNat_of_zero_le (show 0 ≤ c by omega)
    have H : ∀ m : Fin 256, mkr (fun c => decide (c = 34)) ((m.val : Nat) : Int) = mq ((m.val : Nat) : Int) := by decide +kernel
    exact H ⟨n, by omega⟩
  · have e : (decide (32 ≤ c) && decide (c ≤ 126)) = false := by
      rw [Bool.and_eq_false_iff, decide_eq_false_iff_not, decide_eq_false_iff_not]
      omega
    unfold mq mkd mkr
    rw [Bool.and_assoc (decide (c = 34)), e, Bool.and_assoc (has _ _ _ _ c), e]
    simp
theorem rrd_q (S : Array Value) (xs : List Int) (w : World) (hS : Rs S (fun c => decide (c = 34))) (hb : By xs) (hl : xs.length ≤ 1000000000) (r : Int × Int × Int) (hr : rb mq xs = r) :
    Calls Try.prog 27 #[.string (strOfNums xs), .agg S] w fun e w' => e = .returned (.tuple #[.int .u8 r.1, .int .i64 r.2.1, .int .i64 r.2.2]) ∧ Below w.heap.size w w' :=
  rrd_is S _ xs w hS hb hl r (by rw [mq_eq]; exact hr)

set_option maxHeartbeats 1000000 in
theorem runquo_no (xs : List Int) (w : World) (hb : By xs) (hl : xs.length ≤ 1000000) (hx : xs = [] ∨ (0 < xs.length ∧ xs.getD 0 0 ≠ 34)) :
    Calls Try.prog 29 #[.string (strOfNums xs)] w fun e w' => e = .returned (.tuple #[.string ⟨#[]⟩, .int .i64 0, .int .i64 21]) ∧ Below w.heap.size w w' := by
  rcases hx with rfl | ⟨h0, hx⟩
  · rw [show strOfNums [] = (⟨#[]⟩ : ByteArray) from rfl]
    go_enter Try.func29, Try.ntmps29
    go_wp2_with fail
    go_ret3
    exact ⟨rfl, by go_grown⟩
  · obtain ⟨c, hc⟩ : ∃ c, xs.getD 0 0 = c := ⟨_, rfl⟩
    have i0 := idx_lit hb 0 h0 c 0 rfl hc
    have hsz := strOfNums_size xs
    have hne : ((xs.length : Int) == 0) = false := beq_eq_false_iff_ne.2 (by omega)
    rw [hc] at hx
    have hx1 : (c != 34) = true := by simpa using hx
    clear hc hx
    go_enter Try.func29, Try.ntmps29
    go_wp2_with fail
    go_ret3
    exact ⟨rfl, by go_grown⟩

set_option maxRecDepth 100000 in
set_option maxHeartbeats 8000000 in
theorem runquo_loop (xs : List Int) (w : World) (hb : By xs) (hl : xs.length ≤ 1000000) (h0 : 0 < xs.length) (hx : xs.getD 0 0 = 34) (r : List Int × Nat × Int) (hr : unq xs.length 1 [] (xs.drop 1) = r) :
    Calls Try.prog 29 #[.string (strOfNums xs)] w fun e w' => e = .returned (.tuple #[.string (strOfNums r.1), .int .i64 (r.2.1 : Int), .int .i64 r.2.2]) ∧ Below w.heap.size w w' := by
  have i0 := idx_lit hb 0 h0 34 0 rfl hx
  have hsz := strOfNums_size xs
  have hne : ((xs.length : Int) == 0) = false := beq_eq_false_iff_ne.2 (by omega)
  have HR := Lib.hid hr
  clear hr hx
  obtain ⟨Z, hz, hzs, _⟩ := z60
  have HZS := Lib.hid hzs
  clear hzs
  obtain ⟨i5, hi, hz0, hz1, hz2⟩ := info_parts info5
  go_enter Try.func29, Try.ntmps29
  go_wp2_with (go_at_call 32; refine (rof_q _ 5 _ (Blk.new _ _ _)).mono ?_; rintro e w2 ⟨⟨S, rfl, hS⟩, hb2⟩; have hsc := run_storeCells_new (P := Try.prog) w2 60 Z S (by rw [hS.1]; exact info60) (by rw [HZS.out, hS.1]) (rs_all hS); have hs256 := hS.1)
  have HS := Lib.hid hS
  have hs := Lib.hid hS.1
  clear hs256 hS hsc i0
  have hK0 := Blk.new w2 60 S
  have hB0 : Below w.heap.size w (w2.alloc (.cells S 60)) := (bl (by go_grown) hb2).alloc (by have := hb2.size; simp at this; omega) _
  have hzw : w.heap.size ≤ w2.heap.size := by have := hb2.size; simp at this; omega
  clear hb2
  go_loopw [6, 7] (fun v i wr => ∃ (k f : Nat) (acc : List Int), 1 ≤ k ∧ k ≤ xs.length ∧ xs.length ≤ k + f ∧ i = .int .i64 k ∧ unq xs.length 1 [] (xs.drop 1) = unq f k acc (xs.drop k) ∧ wr.ownsRow (w2.heap.size + 1) 5 1 v acc.length (acc.map (Value.int .u8)) ∧ acc.length ≤ k ∧ Blk wr w2.heap.size 60 S ∧ Below w.heap.size w wr)
    (fun v i _ => xs.length - (intOf i).toNat)
  case atStart => exact ⟨1, xs.length, [], Nat.le_refl _, h0, by omega, rfl, rfl, World.ownsRow_nil _ _ _ _, by simp, hK0, hB0⟩
  case round =>
    clear hK0 hB0
    obtain ⟨k, f, acc, hk1, hk, hf, rfl, hu, hrow, hak, hK, hbw⟩ := hrel
    have hzk := hK.lt
    have hU := Lib.hid hu
    clear hu
    by_cases hlt : k < xs.length
    · obtain ⟨f, rfl⟩ : ∃ g, f = g + 1 := ⟨f - 1, by omega⟩
      have hix := idx_any hb k hlt
      have hsl := slice_from xs k hk
      have hd0 : (xs.drop k).getD 0 0 = xs.getD k 0 := by simp [List.getD_eq_getElem?_getD]
      have hdl : (xs.drop k).length = xs.length - k := List.length_drop
      have hkl : ((k : Int) == (xs.length : Int)) = false := beq_eq_false_iff_ne.2 (by omega)
      by_cases hq : xs.getD k 0 = 34
      · have hu2 := Lib.hid (unq_quote f k acc (xs.drop k) (by omega) (hd0.trans hq))
        rw [hq] at hix
        clear hq hd0 hdl
        have hcv := conv_row acc hrow
        have HRO := Lib.hid hrow
        clear hrow hsl
        go_wp2_with fail
        go_ret3
        refine ⟨?_, hbw⟩
        rw [← HR.out, hU.out, hu2.out]
        rfl
      · have hf2 := (rb_facts mq (xs.drop k) (by_drop hb k)).2
        rcases hf2 with ⟨h1, h2, h3⟩ | hbad
        · obtain ⟨c, n', e', hr⟩ : ∃ c n' e', rb mq (xs.drop k) = (c, n', e') := ⟨_, _, _, rfl⟩
          have HRB := Lib.hid (fun w => rrd_q S (xs.drop k) w HS.out (by_drop hb k) (by omega) _ hr)
          rw [hr] at h1 h2 h3
          dsimp only at h1 h2 h3
          subst h1
          have hst := Lib.hid (unq_ok f k acc (xs.drop k) (by omega) (by rw [hd0]; exact hq) c n' hr)
          clear hr hd0
          dsimp only at HRB
          generalize xs.getD k 0 = c0 at *
          have hq0 : (c0 != 34) = true := by simpa using hq
          clear hq
          go_upto_region 7 with fail
          refine wp_region_bw (by kernel_rfl) (by kernel_rfl) ?_
          repeat (go_big_quiet_step (fail))
          refine wpQuiet_byK (.agg S) rfl (quiet_load60 (.tmp 5) rfl rfl hs.out (bw_blk hK)) (fun K hK => ?_)
          go_simp
          refine hK _ ?_
          clear hK K
          go_big_quiet_step ((go_at_call 27; exact calls_bw (HRB.out _)))
          repeat (go_big_quiet_step (fail))
          refine wpQuiet_nil ?_
          rintro _ ⟨p, rfl⟩
          obtain ⟨w3, hb3⟩ := p
          dsimp only
          have hrow2 := own_below hrow hb3
          have hK2 := hK.below hb3 hK.lt
          have hbw2 := bl hbw hb3
          have hz2' := hK2.lt
          have hml : acc.length + 1 ≤ maxLen := by unfold maxLen; omega
          clear hrow hK hbw HRB hsl hix
          go_wp2_with (at_builtin; refine wpList_append_own _ rfl _ _ 33 rfl (w2.heap.size + 1) 5 i5 (.int .u8 0) 1 1 Try.underlying33 hi hz0 hz1 hz2 rfl (by decide) _ _ _ rfl (hrow2.alloc _) ⟨w3.heap.size, 0, none⟩ 1 1 [.int .u8 c] rfl rfl (cell_one_new _ _ _) (by simp [Value.oneCell']) hml (by omega) (by simp; omega) ?_; intro v' w4 hown' hgrow _)
          go_roundw
          case rel =>
            refine ⟨k + n'.toNat, f, acc ++ [c], by omega, by omega, by omega, by congr 1; omega, by rw [hU.out, hst.out, List.drop_drop], by simpa using hown', by simp; omega, (hK2.alloc _).grown hgrow (fun e => own_blk_ne hrow2 hK2 (by decide) e.symm), ?_⟩
            exact (hbw2.alloc (by omega) _).grown hgrow (by simp; omega) (fun j ej => by have := own_ge hrow2 j ej; omega)
          case measure => simp [intOf]; omega
        · have HRB := Lib.hid (fun w => rrd_q S (xs.drop k) w HS.out (by_drop hb k) (by omega) _ hbad)
          have hst := Lib.hid (unq_bad f k acc (xs.drop k) (by omega) (by rw [hd0]; exact hq) hbad)
          clear hbad hd0
          dsimp only at HRB
          generalize xs.getD k 0 = c0 at *
          have hq0 : (c0 != 34) = true := by simpa using hq
          clear hq
          go_upto_region 7 with fail
          refine wp_region_bw (by kernel_rfl) (by kernel_rfl) ?_
          repeat (go_big_quiet_step (fail))
          refine wpQuiet_byK (.agg S) rfl (quiet_load60 (.tmp 5) rfl rfl hs.out (bw_blk hK)) (fun K hK => ?_)
          go_simp
          refine hK _ ?_
          clear hK K
          go_big_quiet_step ((go_at_call 27; exact calls_bw (HRB.out _)))
          repeat (go_big_quiet_step (fail))
          refine wpQuiet_nil ?_
          rintro _ ⟨p, rfl⟩
          obtain ⟨w3, hb3⟩ := p
          dsimp only
          go_wp2_with fail
          go_ret3
          refine ⟨?_, bl hbw hb3⟩
          rw [← HR.out, hU.out, hst.out]
          rfl
    · obtain rfl : k = xs.length := by omega
      go_wp2_with fail
      go_ret3
      refine ⟨?_, hbw⟩
      rw [← HR.out, hU.out, List.drop_length, unq_nil]
      rfl

/-- Unquote of the reference. -/
theorem runquo_any (xs : List Int) (w : World) (hb : By xs) (hl : xs.length ≤ 1000000) :
    Calls Try.prog 29 #[.string (strOfNums xs)] w fun e w' => e = .returned (.tuple #[.string (strOfNums (unquo xs).1), .int .i64 ((unquo xs).2.1 : Int), .int .i64 (unquo xs).2.2]) ∧ Below w.heap.size w w' := by
  cases xs with
  | nil => exact runquo_no [] w hb hl (.inl rfl)
  | cons x t =>
    by_cases h : x = 34
    · have e : unquo (x :: t) = unq (x :: t).length 1 [] ((x :: t).drop 1) := by rw [unquo, if_pos h]; rfl
      rw [e]
      exact runquo_loop (x :: t) w hb hl (by simp) (by simpa using h) _ rfl
    · have e : unquo (x :: t) = ([], 0, 21) := by rw [unquo, if_neg h]
      rw [e]
      exact runquo_no (x :: t) w hb hl (.inr ⟨by simp, by simpa using h⟩)
end Go.Proofs.Ytdgihlelopfdeaa
