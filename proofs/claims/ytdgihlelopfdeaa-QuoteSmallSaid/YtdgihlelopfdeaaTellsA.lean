/-
  tells of the law of quote: what package quote says and what the reference says agree.
-/
import Derived.Test.YtdgihlelopfdeaaRefJ
namespace Go.Proofs.Ytdgihlelopfdeaa
open Go.RowKit Q

theorem rbs_facts (m : Int → Bool) : ∀ (f p : Nat) (acc xs : List Int), By xs → By acc → ((rbs m f p acc xs).2.2 = 0 ∨ ((rbs m f p acc xs).1 = [] ∧ (rbs m f p acc xs).2.2 = 20)) ∧ By (rbs m f p acc xs).1 ∧ (rbs m f p acc xs).1.length ≤ acc.length + f
  | 0, p, acc, xs, _, ha => ⟨.inl rfl, ha, Nat.le_refl _⟩
  | f + 1, p, acc, [], _, ha => ⟨.inl rfl, ha, by show acc.length ≤ _; omega⟩
  | f + 1, p, acc, x :: t, hb, ha => by
    rw [rbs]
    by_cases e : (rb m (x :: t)).2.2 = 0
    · rw [if_pos e]
      have hr := (rb_facts m (x :: t) hb).1
      have := rbs_facts m f (p + (rb m (x :: t)).2.1.toNat) (acc ++ [(rb m (x :: t)).1]) ((x :: t).drop (rb m (x :: t)).2.1.toNat) (by_drop hb _) (by_append ha (by intro y hy; simp at hy; subst hy; exact hr))
      refine ⟨this.1, this.2.1, ?_⟩
      have h2 := this.2.2
      simp only [List.length_append, List.length_cons, List.length_nil] at h2
      omega
    · rw [if_neg e]
      exact ⟨.inr ⟨rfl, rfl⟩, by intro y hy; simp at hy, by simp⟩

set_option maxRecDepth 100000 in
set_option maxHeartbeats 16000000 in
theorem tells_short (x0 x1 x2 x3 c : Int) (xs : List Int) (w : World) (hw : Words x0 x1 x2 x3) (hb0 : By xs) (h0 : 0 ≤ c) (h1 : c ≤ 255) (hl : xs.length ≤ 400) :
    Calls Try.prog 9 #[.string (strOfNums xs), .int .u8 c, .agg #[.int .u64 x0, .int .u64 x1, .int .u64 x2, .int .u64 x3]] w fun e w' => e = .returned (.bool true) ∧ Below w.heap.size w w' := by
  have hl4 : xs.length ≤ 1000000 := by omega
  have hsz := strOfNums_size xs
  obtain ⟨Z, hz, hzs, _⟩ := z60
  have HZS := Lib.hid hzs
  clear hzs
  have hM0 := Blk.new w 24 #[.int .u64 x0, .int .u64 x1, .int .u64 x2, .int .u64 x3]
  have hlen : ¬ (400 : Int) < (xs.length : Int) := by omega
  go_enter Try.func9, Try.ntmps9
  go_wp2_with (go_at_call 26; refine (rwords_any x0 x1 x2 x3 _ hw).mono ?_; rintro e w2 ⟨⟨S, rfl, hS⟩, hb2⟩; have hsc := run_storeCells_new (P := Try.prog) w2 60 Z S (by rw [hS.1]; exact info60) (by rw [HZS.out, hS.1]) (rs_all hS); have hs256 := hS.1; have hM1 := hM0.below hb2 hM0.lt; have q0 := hM1.cell 0; have q1 := hM1.cell 1; have q2 := hM1.cell 2; have q3 := hM1.cell 3; have e0 := World.cell?_alloc_lt w2 (.cells S 60) ⟨w.heap.size, 0, none⟩ hM1.lt; have e1 := World.cell?_alloc_lt w2 (.cells S 60) ⟨w.heap.size, 1, none⟩ hM1.lt; have e2 := World.cell?_alloc_lt w2 (.cells S 60) ⟨w.heap.size, 2, none⟩ hM1.lt; have e3 := World.cell?_alloc_lt w2 (.cells S 60) ⟨w.heap.size, 3, none⟩ hM1.lt)
  clear q0 q1 q2 q3 e0 e1 e2 e3 hsc hs256 hz hM0
  have hM := hM1.alloc (.cells S 60)
  have hT := Blk.new w2 60 S
  have hB : Below w.heap.size w (w2.alloc (.cells S 60)) := (bl (by go_grown) hb2).alloc (by have := hM1.lt; omega) _
  have hs := Lib.hid hS.1
  clear hb2 hM1
  obtain ⟨a, n, e1, hr1⟩ : ∃ a n e1, rb (mkd x0 x1 x2 x3) xs = (a, n, e1) := ⟨_, _, _, rfl⟩
  obtain ⟨l, i, e2, hr2⟩ : ∃ l i e2, rbs (mkd x0 x1 x2 x3) xs.length 0 [] xs = (l, i, e2) := ⟨_, _, _, rfl⟩
  obtain ⟨u, j, e3, hr3⟩ : ∃ u j e3, unquo xs = (u, j, e3) := ⟨_, _, _, rfl⟩
  have hf := rbs_facts (mkd x0 x1 x2 x3) xs.length 0 [] xs hb0 (by intro y hy; simp at hy)
  rw [hr2] at hf
  obtain ⟨hf1, hbl, hll⟩ := hf
  dsimp only at hf1 hbl hll
  simp only [List.length_nil, Nat.zero_add] at hll
  have k20 := fun w => rb_is x0 x1 x2 x3 xs w hw hb0 (by omega)
  unfold RbIs at k20
  rw [hr1] at k20
  have H20 := Lib.hid k20
  have H27 := Lib.hid (fun w => rrd_is S (has x0 x1 x2 x3) xs w hS hb0 (by omega) (a, n, e1) hr1)
  have k19 := fun w => rbs_any x0 x1 x2 x3 xs w hw hb0 (by omega)
  rw [hr2] at k19
  have H19 := Lib.hid k19
  have H28 := Lib.hid (fun w => rrbs_any S (has x0 x1 x2 x3) xs w hS hb0 (by omega) (l, i, e2) hr2)
  have H15 := Lib.hid (fun w => canonical_any x0 x1 x2 x3 xs w hw hb0 (by omega) l (i : Int) e2 (by rw [hr2]) (by rw [hr2]) (by rw [hr2]) hbl (by omega))
  have k12 := fun w => unquo_any xs w hb0 (by omega)
  rw [hr3] at k12
  have H12 := Lib.hid k12
  have k29 := fun w => runquo_any xs w hb0 (by omega)
  rw [hr3] at k29
  have H29 := Lib.hid k29
  have H14 := Lib.hid (fun w => byte_any x0 x1 x2 x3 c w hw h0 h1)
  have H30 := Lib.hid (fun w => rbyte_any S (has x0 x1 x2 x3) c w hS h0 h1)
  have H18 := Lib.hid (fun w => bytes_any x0 x1 x2 x3 xs w hw hb0 (by omega))
  have H31 := Lib.hid (fun w => rbytes_any S (has x0 x1 x2 x3) xs w hS hb0 (by omega))
  have H31l := Lib.hid (fun w => rbytes_any S (has x0 x1 x2 x3) l w hS hbl (by omega))
  have H11 := Lib.hid (fun w => quote_any xs w hb0 (by omega))
  have HSS : Hid ((⟨#[34]⟩ : ByteArray) ++ strOfNums (qbs mq xs) ++ ⟨#[34]⟩ = strOfNums (quo xs)) := by
    show _ = _
    rw [str34, str_append, str_append]; rfl
  have hqz := strOfNums_size (qbs mq xs)
  have hql := (qbs_len mq xs).2
  rw [show mkr (has x0 x1 x2 x3) = mkd x0 x1 x2 x3 from rfl] at H30 H31 H31l
  dsimp only at H20 H27 H19 H28 H12 H29
  clear k20 k19 k12 k29 hr1 hr2 hr3 hS hw
  have q0 := hM.cell 0
  have q1 := hM.cell 1
  have q2 := hM.cell 2
  have q3 := hM.cell 3
  generalize strOfNums (quo xs) = sQQ at *
  generalize strOfNums (qb (mkd x0 x1 x2 x3 c) c) = so at *
  generalize strOfNums (qbs (mkd x0 x1 x2 x3) xs) = sb at *
  generalize strOfNums u = su at *
  rcases hf1 with rfl | ⟨rfl, rfl⟩
  · generalize strOfNums (qbs (mkd x0 x1 x2 x3) l) = sc at *
    generalize strOfNums l = sl at *
    clear hbl hll
    go_wp2_with fail
    refine (H20.out _).mono ?_
    rintro e v1 ⟨rfl, hb⟩
    have hM' := hM.below hb hM.lt
    have hT' := hT.below hb hT.lt
    have hB' := bl hB hb
    clear hb hM hB hT
    have hM := hM'
    have hT := hT'
    have hB := hB'
    clear hM' hB' hT'
    have q0 := hM.cell 0
    have q1 := hM.cell 1
    have q2 := hM.cell 2
    have q3 := hM.cell 3
    go_wp2_with fail
    refine wp_load60 (.tmp 7) hT hs.out rfl rfl ?_
    go_wp2_with fail
    refine (H27.out _).mono ?_
    rintro e v2 ⟨rfl, hb⟩
    have hM' := hM.below hb hM.lt
    have hT' := hT.below hb hT.lt
    have hB' := bl hB hb
    clear hb hM hB hT
    have hM := hM'
    have hT := hT'
    have hB := hB'
    clear hM' hB' hT'
    have q0 := hM.cell 0
    have q1 := hM.cell 1
    have q2 := hM.cell 2
    have q3 := hM.cell 3
    go_wp2_with fail
    refine (H19.out _).mono ?_
    rintro e v3 ⟨rfl, hb⟩
    have hM' := hM.below hb hM.lt
    have hT' := hT.below hb hT.lt
    have hB' := bl hB hb
    clear hb hM hB hT
    have hM := hM'
    have hT := hT'
    have hB := hB'
    clear hM' hB' hT'
    have q0 := hM.cell 0
    have q1 := hM.cell 1
    have q2 := hM.cell 2
    have q3 := hM.cell 3
    go_wp2_with fail
    refine wp_load60 (.tmp 7) hT hs.out rfl rfl ?_
    go_wp2_with fail
    refine (H28.out _).mono ?_
    rintro e v4 ⟨rfl, hb⟩
    have hM' := hM.below hb hM.lt
    have hT' := hT.below hb hT.lt
    have hB' := bl hB hb
    clear hb hM hB hT
    have hM := hM'
    have hT := hT'
    have hB := hB'
    clear hM' hB' hT'
    have q0 := hM.cell 0
    have q1 := hM.cell 1
    have q2 := hM.cell 2
    have q3 := hM.cell 3
    go_wp2_with fail
    refine (H15.out _).mono ?_
    rintro e v5 ⟨rfl, hb⟩
    have hM' := hM.below hb hM.lt
    have hT' := hT.below hb hT.lt
    have hB' := bl hB hb
    clear hb hM hB hT
    have hM := hM'
    have hT := hT'
    have hB := hB'
    clear hM' hB' hT'
    have q0 := hM.cell 0
    have q1 := hM.cell 1
    have q2 := hM.cell 2
    have q3 := hM.cell 3
    go_wp2_with fail
    refine (H12.out _).mono ?_
    rintro e v6 ⟨rfl, hb⟩
    have hM' := hM.below hb hM.lt
    have hT' := hT.below hb hT.lt
    have hB' := bl hB hb
    clear hb hM hB hT
    have hM := hM'
    have hT := hT'
    have hB := hB'
    clear hM' hB' hT'
    have q0 := hM.cell 0
    have q1 := hM.cell 1
    have q2 := hM.cell 2
    have q3 := hM.cell 3
    go_wp2_with fail
    refine (H29.out _).mono ?_
    rintro e v7 ⟨rfl, hb⟩
    have hM' := hM.below hb hM.lt
    have hT' := hT.below hb hT.lt
    have hB' := bl hB hb
    clear hb hM hB hT
    have hM := hM'
    have hT := hT'
    have hB := hB'
    clear hM' hB' hT'
    have q0 := hM.cell 0
    have q1 := hM.cell 1
    have q2 := hM.cell 2
    have q3 := hM.cell 3
    clear q0 q1 q2 q3
    have hbs := hM.lt
    have p0 : ∀ p : Bw v7, p.val.cell? ⟨w.heap.size, 0, none⟩ = some (.int .u64 x0) := Bw.cell hbs (hM.cell 0)
    have p1 : ∀ p : Bw v7, p.val.cell? ⟨w.heap.size, 1, none⟩ = some (.int .u64 x1) := Bw.cell hbs (hM.cell 1)
    have p2 : ∀ p : Bw v7, p.val.cell? ⟨w.heap.size, 2, none⟩ = some (.int .u64 x2) := Bw.cell hbs (hM.cell 2)
    have p3 : ∀ p : Bw v7, p.val.cell? ⟨w.heap.size, 3, none⟩ = some (.int .u64 x3) := Bw.cell hbs (hM.cell 3)
    go_upto_region 11 with fail
    simp only [List.cons_append, List.nil_append, List.append_eq]
    refine wp_region_bw (by kernel_rfl) (by kernel_rfl) ?_
    repeat (go_big_quiet_step (fail))
    go_big_quiet_step ((go_at_call 14; exact calls_bw (H14.out _)))
    repeat (go_big_quiet_step (fail))
    refine wpQuiet_byG (.agg S) (by rfl) (quiet_load60 (.tmp 7) rfl rfl hs.out (bw_blk hT)) (fun K hK => ?_)
    go_simp
    refine hK _ ?_
    clear hK K
    repeat (go_big_quiet_step (fail))
    go_big_quiet_step ((go_at_call 30; exact calls_bw (H30.out _)))
    repeat (go_big_quiet_step (fail))
    go_big_quiet_step ((go_at_call 18; exact calls_bw (H18.out _)))
    repeat (go_big_quiet_step (fail))
    refine wpQuiet_byG (.agg S) (by rfl) (quiet_load60 (.tmp 7) rfl rfl hs.out (bw_blk hT)) (fun K hK => ?_)
    go_simp
    refine hK _ ?_
    clear hK K
    repeat (go_big_quiet_step (fail))
    go_big_quiet_step ((go_at_call 31; exact calls_bw (H31.out _)))
    repeat (go_big_quiet_step (fail))
    refine wpQuiet_byG (.agg S) (by rfl) (quiet_load60 (.tmp 7) rfl rfl hs.out (bw_blk hT)) (fun K hK => ?_)
    go_simp
    refine hK _ ?_
    clear hK K
    repeat (go_big_quiet_step (fail))
    go_big_quiet_step ((go_at_call 31; exact calls_bw (H31l.out _)))
    repeat (go_big_quiet_step (fail))
    refine wpQuiet_nil ?_
    rintro _ ⟨p, rfl⟩
    obtain ⟨w8, hb⟩ := p
    dsimp only
    have hB9 := bl hB hb
    clear hb hM hT hB p0 p1 p2 p3 H20 H27 H19 H28 H15 H12 H29 H14 H30 H18 H31
    go_wp2_with fail
    refine (H11.out _).mono ?_
    rintro e u1 ⟨rfl, hb⟩
    have hB' := bl hB9 hb
    clear hb hB9
    go_wp2_with fail
    refine (rof_q _ 5 _ (Blk.new _ _ _)).mono ?_
    rintro e u2 ⟨⟨Sq, rfl, hSq⟩, hb⟩
    have hB2 : Below w.heap.size w u2 := bl (hB'.alloc (by have := hB'.size; omega) _) hb
    have HQ := Lib.hid (fun w => rbytes_any Sq _ xs w hSq hb0 hl4)
    rw [mq_eq] at HQ
    clear hb hB' hSq
    generalize qbs mq xs = qx at *
    generalize hsx : strOfNums xs = sx at *
    clear hsx
    go_wp2_with fail
    refine (HQ.out _).mono ?_
    rintro e u3 ⟨rfl, hb⟩
    have hB3 := bl hB2 hb
    clear hb hB2 HQ
    go_wp2_with fail
    go_ret
    exact ⟨ret_bool (by rw [HSS.out]; simp), hB3⟩
  · rw [show strOfNums (qbs (mkd x0 x1 x2 x3) []) = (⟨#[]⟩ : ByteArray) from rfl] at H15
    generalize strOfNums [] = sl at *
    clear H31l hbl hll
    go_wp2_with fail
    refine (H20.out _).mono ?_
    rintro e v8 ⟨rfl, hb⟩
    have hM' := hM.below hb hM.lt
    have hT' := hT.below hb hT.lt
    have hB' := bl hB hb
    clear hb hM hB hT
    have hM := hM'
    have hT := hT'
    have hB := hB'
    clear hM' hB' hT'
    have q0 := hM.cell 0
    have q1 := hM.cell 1
    have q2 := hM.cell 2
    have q3 := hM.cell 3
    go_wp2_with fail
    refine wp_load60 (.tmp 7) hT hs.out rfl rfl ?_
    go_wp2_with fail
    refine (H27.out _).mono ?_
    rintro e v9 ⟨rfl, hb⟩
    have hM' := hM.below hb hM.lt
    have hT' := hT.below hb hT.lt
    have hB' := bl hB hb
    clear hb hM hB hT
    have hM := hM'
    have hT := hT'
    have hB := hB'
    clear hM' hB' hT'
    have q0 := hM.cell 0
    have q1 := hM.cell 1
    have q2 := hM.cell 2
    have q3 := hM.cell 3
    go_wp2_with fail
    refine (H19.out _).mono ?_
    rintro e v10 ⟨rfl, hb⟩
    have hM' := hM.below hb hM.lt
    have hT' := hT.below hb hT.lt
    have hB' := bl hB hb
    clear hb hM hB hT
    have hM := hM'
    have hT := hT'
    have hB := hB'
    clear hM' hB' hT'
    have q0 := hM.cell 0
    have q1 := hM.cell 1
    have q2 := hM.cell 2
    have q3 := hM.cell 3
    go_wp2_with fail
    refine wp_load60 (.tmp 7) hT hs.out rfl rfl ?_
    go_wp2_with fail
    refine (H28.out _).mono ?_
    rintro e v11 ⟨rfl, hb⟩
    have hM' := hM.below hb hM.lt
    have hT' := hT.below hb hT.lt
    have hB' := bl hB hb
    clear hb hM hB hT
    have hM := hM'
    have hT := hT'
    have hB := hB'
    clear hM' hB' hT'
    have q0 := hM.cell 0
    have q1 := hM.cell 1
    have q2 := hM.cell 2
    have q3 := hM.cell 3
    go_wp2_with fail
    refine (H15.out _).mono ?_
    rintro e v12 ⟨rfl, hb⟩
    have hM' := hM.below hb hM.lt
    have hT' := hT.below hb hT.lt
    have hB' := bl hB hb
    clear hb hM hB hT
    have hM := hM'
    have hT := hT'
    have hB := hB'
    clear hM' hB' hT'
    have q0 := hM.cell 0
    have q1 := hM.cell 1
    have q2 := hM.cell 2
    have q3 := hM.cell 3
    go_wp2_with fail
    refine (H12.out _).mono ?_
    rintro e v13 ⟨rfl, hb⟩
    have hM' := hM.below hb hM.lt
    have hT' := hT.below hb hT.lt
    have hB' := bl hB hb
    clear hb hM hB hT
    have hM := hM'
    have hT := hT'
    have hB := hB'
    clear hM' hB' hT'
    have q0 := hM.cell 0
    have q1 := hM.cell 1
    have q2 := hM.cell 2
    have q3 := hM.cell 3
    go_wp2_with fail
    refine (H29.out _).mono ?_
    rintro e v14 ⟨rfl, hb⟩
    have hM' := hM.below hb hM.lt
    have hT' := hT.below hb hT.lt
    have hB' := bl hB hb
    clear hb hM hB hT
    have hM := hM'
    have hT := hT'
    have hB := hB'
    clear hM' hB' hT'
    have q0 := hM.cell 0
    have q1 := hM.cell 1
    have q2 := hM.cell 2
    have q3 := hM.cell 3
    clear q0 q1 q2 q3
    have hbs := hM.lt
    have p0 : ∀ p : Bw v14, p.val.cell? ⟨w.heap.size, 0, none⟩ = some (.int .u64 x0) := Bw.cell hbs (hM.cell 0)
    have p1 : ∀ p : Bw v14, p.val.cell? ⟨w.heap.size, 1, none⟩ = some (.int .u64 x1) := Bw.cell hbs (hM.cell 1)
    have p2 : ∀ p : Bw v14, p.val.cell? ⟨w.heap.size, 2, none⟩ = some (.int .u64 x2) := Bw.cell hbs (hM.cell 2)
    have p3 : ∀ p : Bw v14, p.val.cell? ⟨w.heap.size, 3, none⟩ = some (.int .u64 x3) := Bw.cell hbs (hM.cell 3)
    go_upto_region 11 with fail
    simp only [List.cons_append, List.nil_append, List.append_eq]
    refine wp_region_bw (by kernel_rfl) (by kernel_rfl) ?_
    repeat (go_big_quiet_step (fail))
    go_big_quiet_step ((go_at_call 14; exact calls_bw (H14.out _)))
    repeat (go_big_quiet_step (fail))
    refine wpQuiet_byG (.agg S) (by rfl) (quiet_load60 (.tmp 7) rfl rfl hs.out (bw_blk hT)) (fun K hK => ?_)
    go_simp
    refine hK _ ?_
    clear hK K
    repeat (go_big_quiet_step (fail))
    go_big_quiet_step ((go_at_call 30; exact calls_bw (H30.out _)))
    repeat (go_big_quiet_step (fail))
    go_big_quiet_step ((go_at_call 18; exact calls_bw (H18.out _)))
    repeat (go_big_quiet_step (fail))
    refine wpQuiet_byG (.agg S) (by rfl) (quiet_load60 (.tmp 7) rfl rfl hs.out (bw_blk hT)) (fun K hK => ?_)
    go_simp
    refine hK _ ?_
    clear hK K
    repeat (go_big_quiet_step (fail))
    go_big_quiet_step ((go_at_call 31; exact calls_bw (H31.out _)))
    repeat (go_big_quiet_step (fail))
    refine wpQuiet_nil ?_
    rintro _ ⟨p, rfl⟩
    obtain ⟨w8, hb⟩ := p
    dsimp only
    have hB9 := bl hB hb
    clear hb hM hT hB p0 p1 p2 p3 H20 H27 H19 H28 H15 H12 H29 H14 H30 H18 H31
    go_wp2_with fail
    refine (H11.out _).mono ?_
    rintro e u1 ⟨rfl, hb⟩
    have hB' := bl hB9 hb
    clear hb hB9
    go_wp2_with fail
    refine (rof_q _ 5 _ (Blk.new _ _ _)).mono ?_
    rintro e u2 ⟨⟨Sq, rfl, hSq⟩, hb⟩
    have hB2 : Below w.heap.size w u2 := bl (hB'.alloc (by have := hB'.size; omega) _) hb
    have HQ := Lib.hid (fun w => rbytes_any Sq _ xs w hSq hb0 hl4)
    rw [mq_eq] at HQ
    clear hb hB' hSq
    generalize qbs mq xs = qx at *
    generalize hsx : strOfNums xs = sx at *
    clear hsx
    go_wp2_with fail
    refine (HQ.out _).mono ?_
    rintro e u3 ⟨rfl, hb⟩
    have hB3 := bl hB2 hb
    clear hb hB2 HQ
    go_wp2_with fail
    go_ret
    exact ⟨ret_bool (by rw [HSS.out]; simp), hB3⟩

end Go.Proofs.Ytdgihlelopfdeaa
