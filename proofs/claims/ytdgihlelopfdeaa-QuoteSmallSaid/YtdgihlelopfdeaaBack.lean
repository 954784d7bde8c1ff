/-
  QuoteBack: the walk.
-/
import Derived.Test.YtdgihlelopfdeaaStr
import Derived.Test.YtdgihlelopfdeaaPlain2
namespace Go.Proofs.Ytdgihlelopfdeaa
open Go.RowKit Q

set_option maxHeartbeats 1600000 in
theorem counts_any (x0 x1 x2 x3 c : Int) (w : World) (hw : Words x0 x1 x2 x3) (hc0 : 0 ≤ c) (hc1 : c ≤ 255) :
    Calls Try.prog 22 #[.agg #[.int .u64 x0, .int .u64 x1, .int .u64 x2, .int .u64 x3], .int .u8 c] w fun e w' => e = .returned (.bool (mkd x0 x1 x2 x3 c)) ∧ Below w.heap.size w w' := by
  have hh := fun w => has_any x0 x1 x2 x3 c w hw hc0 hc1
  have hm : ∀ h : Bool, has x0 x1 x2 x3 c = h → mkd x0 x1 x2 x3 c = (h && decide (32 ≤ c) && decide (c ≤ 126) && !((decide (65 ≤ c) && decide (c ≤ 90)) || (decide (97 ≤ c) && decide (c ≤ 122))) && !(decide (48 ≤ c) && decide (c ≤ 57))) := by
    intro h e; rw [← e]; rfl
  generalize has x0 x1 x2 x3 c = h at *
  have HH := Lib.hid hh
  have HM := Lib.hid (hm h rfl)
  clear hh hm
  cases h with
  | false =>
    go_enter Try.func22, Try.ntmps22
    go_wp2_with (go_at_call 39; refine (HH.out _).mono ?_; rintro e w1 ⟨rfl, hb1⟩)
    all_goals go_ret
    all_goals exact ⟨ret_bool (by rw [HM.out]; simp), bl (by go_grown) hb1⟩
  | true =>
    go_enter Try.func22, Try.ntmps22
    go_wp2_with (go_at_call 39; refine (HH.out _).mono ?_; rintro e w1 ⟨rfl, hb1⟩)
    all_goals go_ret
    all_goals refine ⟨ret_bool ?_, bl (by go_grown) hb1⟩
    all_goals rw [HM.out]
    all_goals first | rfl | (clear hb1; rw [Bool.eq_iff_iff]; simp; omega)

theorem str_ne {xs ys : List Int} (hx : By xs) (hy : By ys) (h : xs ≠ ys) : strOfNums xs ≠ strOfNums ys := fun e => h (str_inj hx hy e)

theorem hasPrefix_any (xs ys : List Int) (w : World) (h : ys <+: xs) : Calls Try.prog 21 #[.string (strOfNums xs), .string (strOfNums ys)] w fun e w' => e = .returned (.bool true) ∧ w = w' := by
  refine (Try.strings_HasPrefix (strOfNums xs) (strOfNums ys) w).mono ?_
  rintro e w' ⟨rfl, rfl⟩
  refine ⟨ret_bool ?_, rfl⟩
  obtain ⟨zs, rfl⟩ := h
  show List.isPrefixOf _ _ = true
  rw [List.isPrefixOf_iff_prefix]
  exact ⟨zs.map (fun n => UInt8.ofNat n.toNat), by simp [strOfNums]⟩

set_option maxRecDepth 100000 in
set_option maxHeartbeats 8000000 in
theorem back_any (x0 x1 x2 x3 : Int) (xs ys : List Int) (w : World) (hw : Words x0 x1 x2 x3) (hx : By xs) (hy : By ys) (h63 : xs.length ≤ 9223372036854775807) (h64 : ys.length ≤ 9223372036854775807) :
    Calls Try.prog 6 #[.string (strOfNums xs), .string (strOfNums ys), .agg #[.int .u64 x0, .int .u64 x1, .int .u64 x2, .int .u64 x3]] w fun e w' => e = .returned (.bool true) ∧ Below w.heap.size w w' := by
  have hsx := strOfNums_size xs
  have hsy := strOfNums_size ys
  have hk0 := Blk.new w 24 #[.int .u64 x0, .int .u64 x1, .int .u64 x2, .int .u64 x3]
  go_enter Try.func6, Try.ntmps6
  go_wp2_with (first | (go_at_call 10; refine (awake_any _).mono ?_; rintro e w1 ⟨rfl, hb1⟩))
  go_region
  rw [cut150 xs, cut150 ys]
  have hk1 := (hk0.below hb1 hk0.lt).drew
  have hB1 : Below w.heap.size w w1.drew := (bl (by go_grown) hb1).drew
  have ha := by_take hx 150
  have hb := by_take hy 150
  have hla : (xs.take 150).length ≤ 150 := by rw [List.length_take]; omega
  have hlb : (ys.take 150).length ≤ 150 := by rw [List.length_take]; omega
  generalize xs.take 150 = a at *
  generalize ys.take 150 = b at *
  clear hsx hsy hx hy h63 h64 hk0 hb1
  have hz1 : w.heap.size < w1.heap.size := hk1.lt
  have p0 : ∀ p : Bw w1.drew, p.val.cell? ⟨w.heap.size, 0, none⟩ = some (.int .u64 x0) := Bw.cell hz1 (hk1.cell 0)
  have p1 : ∀ p : Bw w1.drew, p.val.cell? ⟨w.heap.size, 1, none⟩ = some (.int .u64 x1) := Bw.cell hz1 (hk1.cell 1)
  have p2 : ∀ p : Bw w1.drew, p.val.cell? ⟨w.heap.size, 2, none⟩ = some (.int .u64 x2) := Bw.cell hz1 (hk1.cell 2)
  have p3 : ∀ p : Bw w1.drew, p.val.cell? ⟨w.heap.size, 3, none⟩ = some (.int .u64 x3) := Bw.cell hz1 (hk1.cell 3)
  have HA := Lib.hid (fun w => bytes_any x0 x1 x2 x3 a w hw ha (by omega))
  have HBb := Lib.hid (fun w => bytes_any x0 x1 x2 x3 b w hw hb (by omega))
  have hmk := mkd_ok x0 x1 x2 x3
  have hsa := strOfNums_size a
  have hss := strOfNums_size (qbs (mkd x0 x1 x2 x3) a)
  have hsb := strOfNums_size b
  have hst := strOfNums_size (qbs (mkd x0 x1 x2 x3) b)
  have hqlb := (qbs_len (mkd x0 x1 x2 x3) b).2
  have hbq := by_qbs (mkd x0 x1 x2 x3) ha
  have hql := (qbs_len (mkd x0 x1 x2 x3) a).2
  have he : (strOfNums a = strOfNums b ∧ strOfNums (qbs (mkd x0 x1 x2 x3) a) = strOfNums (qbs (mkd x0 x1 x2 x3) b)) ∨ (strOfNums a ≠ strOfNums b ∧ strOfNums (qbs (mkd x0 x1 x2 x3) a) ≠ strOfNums (qbs (mkd x0 x1 x2 x3) b)) := by
    by_cases e : a = b
    · subst e; exact .inl ⟨rfl, rfl⟩
    · exact .inr ⟨str_ne ha hb e, str_ne (by_qbs _ ha) (by_qbs _ hb) (fun h => e (qbs_inj _ hmk ha hb h))⟩
  have HRd : Hid (∀ w : World, Calls Try.prog 19 #[.string (strOfNums (qbs (mkd x0 x1 x2 x3) a)), .agg #[.int .u64 x0, .int .u64 x1, .int .u64 x2, .int .u64 x3]] w fun e w' => e = .returned (.tuple #[.string (strOfNums a), .int .i64 ((qbs (mkd x0 x1 x2 x3) a).length : Int), .int .i64 0]) ∧ Below w.heap.size w w') := by
    show ∀ _, _
    intro w
    have h := rbs_any x0 x1 x2 x3 (qbs (mkd x0 x1 x2 x3) a) w hw hbq (by omega)
    rw [rbs_qbs _ hmk a _ 0 [] ha (Nat.le_refl _)] at h
    simpa using h
  have HAB : Hid (∀ w : World, Calls Try.prog 18 #[.string (strOfNums a ++ strOfNums b), .agg #[.int .u64 x0, .int .u64 x1, .int .u64 x2, .int .u64 x3]] w fun e w' => e = .returned (.string (strOfNums (qbs (mkd x0 x1 x2 x3) a) ++ strOfNums (qbs (mkd x0 x1 x2 x3) b))) ∧ Below w.heap.size w w') := by
    show ∀ _, _
    intro w
    have h := bytes_any x0 x1 x2 x3 (a ++ b) w hw (by_append ha hb) (by rw [List.length_append]; omega)
    rw [qbs_append, ← str_append, ← str_append] at h
    exact h
  have hix : ∀ k, k < a.length → ∀ w : World, (Instr.index 9 (.string (strOfNums a)) (.int .i64 (k : Int))).run Try.prog w = .ok (.int .u8 (a.getD k 0)) w := fun k hk w => idx_any ha k hk w
  have hjx : ∀ k, k < (qbs (mkd x0 x1 x2 x3) a).length → ∀ w : World, (Instr.index 9 (.string (strOfNums (qbs (mkd x0 x1 x2 x3) a))) (.int .i64 (k : Int))).run Try.prog w = .ok (.int .u8 ((qbs (mkd x0 x1 x2 x3) a).getD k 0)) w := fun k hk w => idx_any hbq k hk w
  have HByte : Hid (∀ (c : Int) (w : World), 0 ≤ c → c ≤ 255 → ∃ so : ByteArray, ∃ L : Nat, so.size = L ∧ L = (qb (mkd x0 x1 x2 x3 c) c).length ∧ so = strOfNums (qb (mkd x0 x1 x2 x3 c) c)) := by
    show ∀ _, _
    intro c w _ _
    exact ⟨_, _, strOfNums_size _, rfl, rfl⟩
  have HRB : Hid (∀ (c : Int), 0 ≤ c → c ≤ 255 → ∀ w : World, Calls Try.prog 20 #[.string (strOfNums (qb (mkd x0 x1 x2 x3 c) c) ++ strOfNums (qbs (mkd x0 x1 x2 x3) b)), .agg #[.int .u64 x0, .int .u64 x1, .int .u64 x2, .int .u64 x3]] w fun e w' => e = .returned (.tuple #[.int .u8 c, .int .i64 ((qb (mkd x0 x1 x2 x3 c) c).length : Int), .int .i64 0]) ∧ Below w.heap.size w w') := by
    show ∀ _, _
    intro c h0 h1 w
    have hl1 := (qb_len (mkd x0 x1 x2 x3 c) c).2
    have hl2 := (qbs_len (mkd x0 x1 x2 x3) b).2
    have h := rb_is x0 x1 x2 x3 (qb (mkd x0 x1 x2 x3 c) c ++ qbs (mkd x0 x1 x2 x3) b) w hw (by_append (fun x hx => by have := qb_range (mkd x0 x1 x2 x3 c) h0 h1 x hx; omega) (by_qbs _ hb)) (by rw [List.length_append]; omega)
    unfold RbIs at h
    rw [rb_qb _ hmk c h0 h1, ← str_append] at h
    exact h
  clear HByte
  generalize hSA : strOfNums a = sa at *
  generalize hSB : strOfNums b = sb at *
  generalize hSS : strOfNums (qbs (mkd x0 x1 x2 x3) a) = ss at *
  generalize hST : strOfNums (qbs (mkd x0 x1 x2 x3) b) = st at *
  have hSS' := Lib.hid hSS
  clear hSA hSB hSS hST
  have HIX := Lib.hid hix
  have HJX := Lib.hid hjx
  clear hix hjx
  go_wp2_with fail
  refine wp_region_bw (by kernel_rfl) (by kernel_rfl) ?_
  repeat (go_big_quiet_step (fail))
  go_big_quiet_step ((go_at_call 18; exact calls_bw (HA.out _)))
  repeat (go_big_quiet_step (fail))
  go_big_quiet_step ((go_at_call 18; exact calls_bw (HBb.out _)))
  repeat (go_big_quiet_step (fail))
  refine wpQuiet_nil ?_
  rintro _ ⟨p, rfl⟩
  obtain ⟨w2, hb2⟩ := p
  dsimp only
  have hk2 := hk1.below hb2 hk1.lt
  have hB2 := bl hB1 hb2
  have q0 := hk2.cell 0
  have q1 := hk2.cell 1
  have q2 := hk2.cell 2
  have q3 := hk2.cell 3
  clear hb2 hk1 hB1 p0 p1 p2 p3 HA HBb
  go_wp2_with fail
  refine (HRd.out _).mono ?_
  rintro e w3 ⟨rfl, hb3⟩
  have hk3 := hk2.below hb3 hk2.lt
  have hB3 := bl hB2 hb3
  have q0 := hk3.cell 0
  have q1 := hk3.cell 1
  have q2 := hk3.cell 2
  have q3 := hk3.cell 3
  clear hb3 hk2 hB2 HRd
  have hne : (ss.toList == st.toList) = (sa.toList == sb.toList) := by
    have hi : ∀ {u v : ByteArray}, u ≠ v → (u.toList == v.toList) = false := by
      intro u v h
      rw [beq_eq_false_iff_ne]
      intro e
      rw [ByteArray.toList_eq, ByteArray.toList_eq] at e
      exact h (ByteArray.ext (Array.toList_inj.1 e))
    rcases he with ⟨rfl, rfl⟩ | ⟨n1, n2⟩
    · rw [beq_self_eq_true, beq_self_eq_true]
    · rw [hi n1, hi n2]
  clear he
  go_wp2_with fail
  refine (HAB.out _).mono ?_
  rintro e w4 ⟨rfl, hb4⟩
  have hk4 := hk3.below hb4 hk3.lt
  have hB4 := bl hB3 hb4
  clear hb4 hk3 hB3 HAB q0 q1 q2 q3 hne
  go_wp2_with fail
  go_loopw [12, 79] (fun u i wr => ∃ k : Nat, k ≤ a.length ∧ i = .int .i64 k ∧ u = .int .i64 ((qbs (mkd x0 x1 x2 x3) (a.take k)).length : Nat) ∧ Blk wr w.heap.size 24 #[.int .u64 x0, .int .u64 x1, .int .u64 x2, .int .u64 x3] ∧ Below w.heap.size w wr) (fun u i _ => a.length - (intOf i).toNat)
  case atStart => exact ⟨0, by omega, rfl, rfl, hk4, hB4⟩
  case round =>
    obtain ⟨k, hk, rfl, rfl, hm, hB⟩ := hrel
    by_cases hlt : k < a.length
    · have hcr := by_getD ha k
      have hi := HIX.out k hlt
      have hsn := qbs_snoc (mkd x0 x1 x2 x3) a hlt
      have hsp : qbs (mkd x0 x1 x2 x3) a = qbs (mkd x0 x1 x2 x3) (a.take k) ++ (qb (mkd x0 x1 x2 x3 (a.getD k 0)) (a.getD k 0) ++ qbs (mkd x0 x1 x2 x3) (a.drop (k + 1))) := by
        rw [← List.append_assoc, ← hsn, ← qbs_append, List.take_append_drop]
      have HB14 := Lib.hid (fun w => byte_any x0 x1 x2 x3 (a.getD k 0) w hw hcr.1 hcr.2)
      have HR20 := Lib.hid (HRB.out (a.getD k 0) hcr.1 hcr.2)
      have hLs := Lib.hid (congrArg List.length hsn)
      have hso := strOfNums_size (qb (mkd x0 x1 x2 x3 (a.getD k 0)) (a.getD k 0))
      have hq4 := (qb_len (mkd x0 x1 x2 x3 (a.getD k 0)) (a.getD k 0)).2
      have hLe : (qbs (mkd x0 x1 x2 x3) (a.take k)).length ≤ (qbs (mkd x0 x1 x2 x3) a).length := by rw [hsp, List.length_append]; omega
      have hdr : (qbs (mkd x0 x1 x2 x3) a).drop (qbs (mkd x0 x1 x2 x3) (a.take k)).length = qb (mkd x0 x1 x2 x3 (a.getD k 0)) (a.getD k 0) ++ qbs (mkd x0 x1 x2 x3) (a.drop (k + 1)) := by
        rw [hsp, List.drop_left']; rfl
      have hmin : min ((qbs (mkd x0 x1 x2 x3) (a.take k)).length : Int) ((qbs (mkd x0 x1 x2 x3) a).length : Int) = ((qbs (mkd x0 x1 x2 x3) (a.take k)).length : Int) := by omega
      have hsl : ∀ w : World, (Instr.slice 9 (.string ss) (some (.int .i64 (min ((qbs (mkd x0 x1 x2 x3) (a.take k)).length : Int) ((qbs (mkd x0 x1 x2 x3) a).length : Int)))) none none).run Try.prog w = .ok (.string (strOfNums ((qbs (mkd x0 x1 x2 x3) a).drop (qbs (mkd x0 x1 x2 x3) (a.take k)).length))) w := by
        intro w; rw [hmin, ← hSS'.out]; exact slice_from _ _ hLe w
      have HP := Lib.hid (fun w => hasPrefix_any ((qbs (mkd x0 x1 x2 x3) a).drop (qbs (mkd x0 x1 x2 x3) (a.take k)).length) (qb (mkd x0 x1 x2 x3 (a.getD k 0)) (a.getD k 0)) w (by rw [hdr]; exact List.prefix_append _ _))
      rw [List.length_append] at hLs
      clear hsn hsp hdr hmin
      generalize strOfNums ((qbs (mkd x0 x1 x2 x3) a).drop (qbs (mkd x0 x1 x2 x3) (a.take k)).length) = sd at *
      generalize (qbs (mkd x0 x1 x2 x3) (a.take k)).length = L0 at *
      generalize strOfNums (qb (mkd x0 x1 x2 x3 (a.getD k 0)) (a.getD k 0)) = so at *
      generalize (qb (mkd x0 x1 x2 x3 (a.getD k 0)) (a.getD k 0)).length = L1 at *
      generalize a.getD k 0 = c at *
      obtain ⟨c0, c1⟩ := hcr
      have hbs : w.heap.size < wr.heap.size := hm.lt
      have p0 : ∀ p : Bw wr, p.val.cell? ⟨w.heap.size, 0, none⟩ = some (.int .u64 x0) := Bw.cell hbs (hm.cell 0)
      have p1 : ∀ p : Bw wr, p.val.cell? ⟨w.heap.size, 1, none⟩ = some (.int .u64 x1) := Bw.cell hbs (hm.cell 1)
      have p2 : ∀ p : Bw wr, p.val.cell? ⟨w.heap.size, 2, none⟩ = some (.int .u64 x2) := Bw.cell hbs (hm.cell 2)
      have p3 : ∀ p : Bw wr, p.val.cell? ⟨w.heap.size, 3, none⟩ = some (.int .u64 x3) := Bw.cell hbs (hm.cell 3)
      go_wp2_with fail
      refine wp_region_bw (by kernel_rfl) (by kernel_rfl) ?_
      repeat (go_big_quiet_step ((go_at_call 14; exact calls_bw (HB14.out _))))
      refine wpQuiet_nil ?_
      rintro _ ⟨p, rfl⟩
      obtain ⟨w5, hb5⟩ := p
      dsimp only
      have hm5 := hm.below hb5 hm.lt
      have hB5 := bl hB hb5
      have q0 := hm5.cell 0
      have q1 := hm5.cell 1
      have q2 := hm5.cell 2
      have q3 := hm5.cell 3
      clear hb5 hm hB p0 p1 p2 p3 HB14
      go_wp2_with fail
      refine (HR20.out _).mono ?_
      rintro e w6 ⟨rfl, hb6⟩
      have hm6 := hm5.below hb6 hm5.lt
      have hB6 := bl hB5 hb6
      clear hb6 hm5 hB5 q0 q1 q2 q3 HR20
      go_wp2_with fail
      refine (HP.out _).mono ?_
      rintro e w7 ⟨rfl, rfl⟩
      go_wp2_with fail
      go_roundw
      case rel => exact ⟨k + 1, by omega, by go_num, by rw [hLs.out]; go_num, hm6, hB6⟩
      case measure => simp [intOf]; omega
    · have ek : k = a.length := by omega
      subst ek
      rw [List.take_length]
      go_wp2_with fail
      have hmr : ∀ j, j < (qbs (mkd x0 x1 x2 x3) a).length → 32 ≤ (qbs (mkd x0 x1 x2 x3) a).getD j 0 ∧ (qbs (mkd x0 x1 x2 x3) a).getD j 0 ≤ 126 := fun j hj => by
        apply qbs_range (mkd x0 x1 x2 x3) ha
        rw [List.getD_eq_getElem?_getD, List.getElem?_eq_getElem hj]
        exact List.getElem_mem hj
      have HMR := Lib.hid hmr
      have HMK := Lib.hid (fun j => qbs_marks (mkd x0 x1 x2 x3) hmk (mkd_hexd x0 x1 x2 x3) a j ha)
      clear hmr
      go_loopw [129] (fun i wr2 => ∃ j : Nat, j ≤ (qbs (mkd x0 x1 x2 x3) a).length ∧ i = .int .i64 j ∧ Blk wr2 w.heap.size 24 #[.int .u64 x0, .int .u64 x1, .int .u64 x2, .int .u64 x3] ∧ Below w.heap.size w wr2) (fun i _ => (qbs (mkd x0 x1 x2 x3) a).length - (intOf i).toNat)
      case atStart => exact ⟨0, by omega, rfl, hm, hB⟩
      case round =>
        obtain ⟨j, hj, rfl, hm2, hBB⟩ := hrel
        by_cases hl2 : j < (qbs (mkd x0 x1 x2 x3) a).length
        · have hr := HMR.out j hl2
          have hi := HJX.out j hl2
          have HM2 := Lib.hid (HMK.out j hl2)
          have hi2 := Lib.hid (fun h : j - 1 < (qbs (mkd x0 x1 x2 x3) a).length => HJX.out (j - 1) h)
          generalize (qbs (mkd x0 x1 x2 x3) a).getD j 0 = c at *
          obtain ⟨r0, r1⟩ := hr
          have hbs : w.heap.size < wr.heap.size := hm2.lt
          have p0 : ∀ p : Bw wr, p.val.cell? ⟨w.heap.size, 0, none⟩ = some (.int .u64 x0) := Bw.cell hbs (hm2.cell 0)
          have p1 : ∀ p : Bw wr, p.val.cell? ⟨w.heap.size, 1, none⟩ = some (.int .u64 x1) := Bw.cell hbs (hm2.cell 1)
          have p2 : ∀ p : Bw wr, p.val.cell? ⟨w.heap.size, 2, none⟩ = some (.int .u64 x2) := Bw.cell hbs (hm2.cell 2)
          have p3 : ∀ p : Bw wr, p.val.cell? ⟨w.heap.size, 3, none⟩ = some (.int .u64 x3) := Bw.cell hbs (hm2.cell 3)
          have d0 : decide (c < 32) = false := by rw [decide_eq_false_iff_not]; omega
          have d1 : decide (126 < c) = false := by rw [decide_eq_false_iff_not]; omega
          by_cases h9 : c = 92
          · have d2 : (c != 92) = false := by simpa using h9
            clear hi2 HM2 h9
            go_wp2_with fail
            refine wp_region_bw (by kernel_rfl) (by kernel_rfl) ?_
            repeat (go_big_quiet_step (fail))
            refine wpQuiet_nil ?_
            rintro _ ⟨p, rfl⟩
            obtain ⟨w5, hb5⟩ := p
            dsimp only
            go_wp2_with fail
            go_roundw
            case rel => exact ⟨j + 1, by omega, by go_num, hm2.below hb5 hm2.lt, bl hBB hb5⟩
            case measure => simp [intOf]; omega
          · have d2 : (c != 92) = true := by simpa using h9
            have HC := Lib.hid (fun w => counts_any x0 x1 x2 x3 c w hw (by omega) (by omega))
            cases hM : mkd x0 x1 x2 x3 c with
            | false =>
              rw [hM] at HC
              clear hi2 HM2 h9 hM
              go_wp2_with fail
              refine wp_region_bw (by kernel_rfl) (by kernel_rfl) ?_
              repeat (go_big_quiet_step ((go_at_call 22; exact calls_bw (HC.out _))))
              refine wpQuiet_nil ?_
              rintro _ ⟨p, rfl⟩
              obtain ⟨w5, hb5⟩ := p
              dsimp only
              go_wp2_with fail
              go_roundw
              case rel => exact ⟨j + 1, by omega, by go_num, hm2.below hb5 hm2.lt, bl hBB hb5⟩
              case measure => simp [intOf]; omega
            | true =>
              rw [hM] at HC
              have hfin := HM2.out h9 hM
              have hj0 : (j == 0) = false := beq_eq_false_iff_ne.2 hfin.1
              have hj0' : ((j : Int) == 0) = false := beq_eq_false_iff_ne.2 (by omega)
              have hj2 : (0 : Int) ≤ (j : Int) - 1 := by omega
              have hj1 := hi2.out (by omega)
              rw [hfin.2, show ((j - 1 : Nat) : Int) = (j : Int) - 1 from by omega] at hj1
              clear hi2 HM2 h9 hM hfin
              go_wp2_with fail
              refine wp_region_bw (by kernel_rfl) (by kernel_rfl) ?_
              repeat (go_big_quiet_step ((go_at_call 22; exact calls_bw (HC.out _))))
              refine wpQuiet_nil ?_
              rintro _ ⟨p, rfl⟩
              obtain ⟨w5, hb5⟩ := p
              dsimp only
              go_wp2_with fail
              go_roundw
              case rel => exact ⟨j + 1, by omega, by go_num, hm2.below hb5 hm2.lt, bl hBB hb5⟩
              case measure => simp [intOf]; omega
        · obtain rfl : j = (qbs (mkd x0 x1 x2 x3) a).length := by omega
          go_wp2_with fail
          go_ret
          exact ⟨rfl, hBB⟩
end Go.Proofs.Ytdgihlelopfdeaa
