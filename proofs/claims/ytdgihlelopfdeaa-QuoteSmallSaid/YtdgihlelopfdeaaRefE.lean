/-
  The reference of quote: Bytes.
-/
import Derived.Test.YtdgihlelopfdeaaRefD
import Derived.Test.YtdgihlelopfdeaaTail
namespace Go.Proofs.Ytdgihlelopfdeaa
open Go.RowKit Q

theorem quiet_load60 {C : World → Prop} {o : Oper} {a : Act} {b : Nat} {S : Array Value} (x : Operand) (ho : o.op = .load 60 x) (hx : a.eval x = .pointer (some ⟨b, 0, none⟩)) (hs : S.size = 256) (hB : ∀ w, C w → Blk w b 60 S) : ∀ w, C w → o.quietAt Try.prog a C w (.agg S) := by
  intro w hw
  unfold Oper.quietAt execOp
  simp only [ho, hx, Instr.loadAt, Instr.sureAddr, Sem.run_bind, Sem.run_pure, Result.andThen_ok, load60 (hB w hw) hs]
  exact ⟨rfl, rfl⟩
theorem bw_blk {w : World} {b t : Nat} {cs : Array Value} (h : Blk w b t cs) : ∀ w', (∃ p : Bw w, w' = p.val) → Blk w' b t cs := by
  rintro _ ⟨p, rfl⟩
  exact h.below p.prop h.lt

theorem wp_append_str {o : Oper} {a : Act} {w : World} {K : Act → World → Prop} {Q : Exit → Act → World → Prop} (sl x : Operand)
    (ho : o.op = .call { callee := .builtin .append, args := #[sl, x], argTypes := #[33, 9] })
    (base : Nat) (v : Value) (n : Nat) (xs : List Value) (hs : a.eval sl = v) (hown : w.ownsRow base 5 1 v n xs) (s : ByteArray) (hx : a.eval x = .string s)
    (hbytes : n + s.size ≤ 140737488355328) (hbase : base ≤ w.heap.size)
    (h : ∀ v' w', w'.ownsRow base 5 1 v' (n + s.size) (xs ++ Lib.strCells s) → w.grownBy w' v.ownBlock → K (a.put o.dst v') w') : o.wp Try.prog a w K Q := by
  obtain ⟨i0, hi, hz0, hz1, hz2⟩ := info_parts byte_info
  obtain ⟨v', w', hr, h2, h3, _⟩ := Lib.run_append_own_string (P := Try.prog) w base 33 9 o.type 5 i0 Try.underlying33 Try.underlying9 hi hz0 hz1 hz2 v n xs hown s (by unfold maxLen; omega) hbytes hbase
  unfold Oper.wp execOp
  simp only [ho, resolve, invoke, builtin, Sem.run_bind, Sem.run_pure, Result.andThen_ok, List.map_toArray, List.map_cons, List.map_nil, hs, hx, hr]
  exact h v' w' h2 h3
theorem wpList_append_str {ops : Array Oper} {rest : List Oper} {o : Oper} {a : Act} {w : World} {Q : Exit → Act → World → Prop} (hgd : o.guard = none) (sl x : Operand)
    (ho : o.op = .call { callee := .builtin .append, args := #[sl, x], argTypes := #[33, 9] })
    (base : Nat) (v : Value) (n : Nat) (xs : List Value) (hs : a.eval sl = v) (hown : w.ownsRow base 5 1 v n xs) (s : ByteArray) (hx : a.eval x = .string s)
    (hbytes : n + s.size ≤ 140737488355328) (hbase : base ≤ w.heap.size)
    (h : ∀ v' w', w'.ownsRow base 5 1 v' (n + s.size) (xs ++ Lib.strCells s) → w.grownBy w' v.ownBlock → wpList Try.prog ops Q rest (a.put o.dst v') w') : wpList Try.prog ops Q (o :: rest) a w :=
  wpList_plain hgd fun _ hK => wp_append_str sl x ho base v n xs hs hown s hx hbytes hbase fun v' w' h2 h3 => hK _ _ (h v' w' h2 h3)
theorem str_cells_map {q : List Int} (hq : By q) : Lib.strCells (strOfNums q) = q.map (Value.int .u8) := by
  rw [str_cells]
  unfold Lib.byteCells toU
  rw [List.map_map]
  refine List.map_congr_left fun x hx => ?_
  have := hq x hx
  simp only [Function.comp_apply]
  congr 1
  simp only [UInt8.toNat_ofNat']
  omega

set_option maxRecDepth 100000 in
set_option maxHeartbeats 4000000 in
/-- Bytes of the reference. -/
theorem rbytes_any (S : Array Value) (h : Int → Bool) (xs : List Int) (w : World) (hS : Rs S h) (hb : By xs) (hl : xs.length ≤ 1000000) :
    Calls Try.prog 31 #[.string (strOfNums xs), .agg S] w fun e w' => e = .returned (.string (strOfNums (qbs (mkr h) xs))) ∧ Below w.heap.size w w' := by
  have hsz := strOfNums_size xs
  have hK0 := Blk.new w 60 S
  go_enter Try.func31, Try.ntmps31
  go_wp2_with fail
  go_loopw [5, 6] (fun v i wr => ∃ k : Nat, k ≤ xs.length ∧ i = .int .i64 k ∧ wr.ownsRow (w.heap.size + 1) 5 1 v (qbs (mkr h) (xs.take k)).length ((qbs (mkr h) (xs.take k)).map (Value.int .u8)) ∧ Blk wr w.heap.size 60 S ∧ Below w.heap.size w wr) (fun v i _ => xs.length - (intOf i).toNat)
  case atStart => exact ⟨0, Nat.zero_le _, rfl, World.ownsRow_nil _ _ _ _, hK0, by go_grown⟩
  case round =>
    obtain ⟨k, hk, rfl, hrow, hm, hB⟩ := hrel
    by_cases hlt : k < xs.length
    · have hix := idx_any hb k hlt
      have hr := by_getD hb k
      have hql := (qbs_len (mkr h) (xs.take k)).2
      have hlk := List.length_take_le k xs
      have HSN := Lib.hid (qbs_snoc (mkr h) xs hlt)
      have HB := Lib.hid (fun w => rbyte_any S h (xs.getD k 0) w hS hr.1 hr.2)
      have hs4 := (qb_len (mkr h (xs.getD k 0)) (xs.getD k 0)).2
      have hso := strOfNums_size (qb (mkr h (xs.getD k 0)) (xs.getD k 0))
      have HCE := Lib.hid (str_cells_map (q := qb (mkr h (xs.getD k 0)) (xs.getD k 0)) (fun x hx => by have := qb_range (mkr h (xs.getD k 0)) hr.1 hr.2 x hx; omega))
      have hzr := hm.lt
      have hs256 := hS.1
      generalize xs.getD k 0 = c at *
      generalize strOfNums (qb (mkr h c) c) = so at *
      generalize hqc : qb (mkr h c) c = q at *
      generalize hqk : qbs (mkr h) (xs.take k) = qk at *
      have HS256 := Lib.hid hs256
      clear hs256 hS hqc hqk
      go_wp2_with fail
      refine wp_region_bw_tail 6 (by kernel_rfl) (by kernel_rfl) ?_
      simp only [List.take_succ_cons, List.take_zero, List.drop_succ_cons, List.drop_zero]
      repeat (go_big_quiet_step (fail))
      refine wpQuiet_byK (.agg S) rfl (quiet_load60 (.tmp 3) rfl rfl HS256.out (bw_blk hm)) (fun K hK => ?_)
      go_simp
      refine hK _ ?_
      clear hK K
      go_big_quiet_step ((go_at_call 30; exact calls_bw (HB.out _)))
      refine wpQuiet_nil ?_
      rintro _ ⟨p, rfl⟩
      obtain ⟨w5, hb5⟩ := p
      dsimp only
      have hz5 := hb5.size
      have hzz := hB.size
      have hrow5 := own_below hrow hb5
      refine wpList_append_str rfl (.tmp 13) (.tmp 18) rfl (w.heap.size + 1) u5 qk.length (qk.map (Value.int .u8)) rfl hrow5 so rfl (by omega) (by omega) ?_
      intro v' w6 hown' hgrow
      have hm6 : Blk w6 w.heap.size 60 S := (hm.below hb5 hm.lt).grown hgrow (fun e => own_blk_ne hrow5 (hm.below hb5 hm.lt) (by decide) e.symm)
      have hB6 : Below w.heap.size w w6 := (bl hB hb5).grown hgrow (by omega) (fun j ej => by have := own_ge hrow5 j ej; omega)
      rw [HCE.out, ← List.map_append, hso, ← List.length_append, ← HSN.out] at hown'
      go_wp2_with fail
      go_roundw
      case rel => exact ⟨k + 1, by omega, by go_num, hown', hm6, hB6⟩
      case measure => simp [intOf]; omega
    · obtain rfl : k = xs.length := by omega
      rw [List.take_length] at hrow
      have hcv := conv_row _ hrow
      have HRW := Lib.hid hrow
      clear hrow
      go_wp2_with fail
      go_ret
      exact ⟨rfl, hB⟩
end Go.Proofs.Ytdgihlelopfdeaa
