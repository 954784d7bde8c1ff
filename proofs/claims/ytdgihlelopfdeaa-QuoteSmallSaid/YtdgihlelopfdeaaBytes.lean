/-
  Strings as lists of bytes; quote.Bytes.
-/
import Derived.Test.YtdgihlelopfdeaaByte
import Derived.Deep.RegionWith
namespace Go.Proofs.Ytdgihlelopfdeaa
open Go.RowKit Q

def toU (xs : List Int) : List UInt8 := xs.map fun n => UInt8.ofNat n.toNat
theorem toU_append (xs ys : List Int) : toU (xs ++ ys) = toU xs ++ toU ys := by simp [toU]
theorem toU_length (xs : List Int) : (toU xs).length = xs.length := by simp [toU]
theorem str_eq (xs : List Int) : strOfNums xs = ⟨(toU xs).toArray⟩ := rfl
theorem str_cells (xs : List Int) : Lib.strCells (strOfNums xs) = Lib.byteCells (toU xs) := rfl
theorem str_append (xs ys : List Int) : strOfNums xs ++ strOfNums ys = strOfNums (xs ++ ys) := by
  apply ByteArray.ext
  simp [strOfNums]

theorem by_getD {xs : List Int} (h : By xs) (k : Nat) : 0 ≤ xs.getD k 0 ∧ xs.getD k 0 ≤ 255 := by
  rw [List.getD_eq_getElem?_getD]
  cases hj : xs[k]? with
  | none => simp
  | some q => exact h q (List.mem_of_getElem? hj)

theorem idx_any {xs : List Int} (hb : By xs) (k : Nat) (hk : k < xs.length) (w : World) :
    (Instr.index 9 (.string (strOfNums xs)) (.int .i64 (k : Int))).run Try.prog w = .ok (.int .u8 (xs.getD k 0)) w := by
  have hr := by_getD hb k
  have hsz := strOfNums_size xs
  rw [run_index_string (w := w) 9 (strOfNums xs) .i64 (k : Int) Try.underlying9, dif_pos ⟨by omega, by omega⟩]
  congr 2
  have e : (strOfNums xs)[(k : Int).toNat]'(by omega) = UInt8.ofNat (xs.getD k 0).toNat := by
    show (strOfNums xs).data[(k : Int).toNat]'(by simpa [strOfNums] using hk) = _
    simp [strOfNums, List.getElem?_eq_getElem hk]
  rw [e]
  simp only [UInt8.toNat_ofNat']
  omega

theorem own_below {w w1 : World} {base : Nat} {e : TypeId} {size : Nat} {v : Value} {n : Nat} {xs : List Value} (h : w.ownsRow base e size v n xs) (hb : Below w.heap.size w w1) : w1.ownsRow base e size v n xs := by
  obtain ⟨h1, h2⟩ := h
  refine ⟨h1, ?_⟩
  rcases h2 with h2 | ⟨g, cap, cur, hv, hg, hh, r⟩
  · exact .inl h2
  · exact .inr ⟨g, cap, cur, hv, hg, (hb.block g (lt_of_block hh)).trans hh, r⟩
theorem bld_below {w w1 : World} {T e : TypeId} {B b : Nat} {bs : List Value} (h : Lib.IsBuilder T e B b bs w) (hb : Below w.heap.size w w1) : Lib.IsBuilder T e B b bs w1 := by
  rcases h with ⟨a, v, c, d, f⟩ | ⟨a, v, c, d, f⟩
  · exact .inl ⟨a, v, (hb.block b (lt_of_block c)).trans c, own_below d hb, f⟩
  · exact .inr ⟨a, v, (hb.block b (lt_of_block c)).trans c, own_below d hb, f⟩

set_option maxHeartbeats 1000000 in
/-- quote.Bytes. -/
theorem bytes_any (x0 x1 x2 x3 : Int) (xs : List Int) (w : World) (hw : Words x0 x1 x2 x3) (hb : By xs) (hl : xs.length ≤ 1000000) :
    Calls Try.prog 18 #[.string (strOfNums xs), .agg #[.int .u64 x0, .int .u64 x1, .int .u64 x2, .int .u64 x3]] w fun e w' => e = .returned (.string (strOfNums (qbs (mkd x0 x1 x2 x3) xs))) ∧ Below w.heap.size w w' := by
  have hsz : (strOfNums xs).size = xs.length := strOfNums_size xs
  go_enter Try.func18, Try.ntmps18
  go_wp2_with fail
  go_loopw [9] (fun i wr => ∃ k : Nat, k ≤ xs.length ∧ i = .int .i64 k ∧ Lib.IsBuilder 36 5 (w.heap.size + 1) (w.heap.size + 1) (Lib.byteCells (toU (qbs (mkd x0 x1 x2 x3) (xs.take k)))) wr ∧ Blk wr w.heap.size 24 #[.int .u64 x0, .int .u64 x1, .int .u64 x2, .int .u64 x3] ∧ Below w.heap.size w wr) (fun i _ => xs.length - (intOf i).toNat)
  case atStart => exact ⟨0, Nat.zero_le _, rfl, by simpa [qbs, toU, Lib.byteCells] using Lib.fresh_isBuilder 36 5 (w.alloc _), (Blk.new w 24 _).alloc _, by go_grown⟩
  case round =>
    obtain ⟨k, hk, rfl, hbd, hbx, hbw⟩ := hrel
    by_cases hlt : k < xs.length
    · have hix := idx_any hb k hlt
      have hr := by_getD hb k
      have q0 := hbx.cell 0
      have q1 := hbx.cell 1
      have q2 := hbx.cell 2
      have q3 := hbx.cell 3
      have hbl := Lib.byteCells_length (toU (qbs (mkd x0 x1 x2 x3) (xs.take k)))
      rw [toU_length] at hbl
      have hql := (qbs_len (mkd x0 x1 x2 x3) (xs.take k)).2
      have hSN := Lib.hid (qbs_snoc (mkd x0 x1 x2 x3) xs hlt)
      have h4 := (qb_len (mkd x0 x1 x2 x3 (xs.getD k 0)) (xs.getD k 0)).2
      generalize hx : xs.getD k 0 = x at *
      clear hx
      have hr0 := hr.1
      have hr1 := hr.2
      have hbs : w.heap.size < wr.heap.size := hbx.lt
      have hlen : (Lib.byteCells (toU (qbs (mkd x0 x1 x2 x3) (xs.take k)))).length + (strOfNums (qb (mkd x0 x1 x2 x3 x) x)).size ≤ 140737488355328 := by
        rw [hbl, strOfNums_size]
        have := List.length_take_le k xs
        omega
      have hbdd : Lib.IsBuilder 36 5 (w.heap.size + 1) (w.heap.size + 1) (Lib.byteCells (toU (qbs (mkd x0 x1 x2 x3) (xs.take k)))) wr.drew := hbd
      have hbwd := hbw.drew
      clear hbl hr hbd hbw hql h4
      go_wp2_with fail
      go_region_with (first | (go_at_call 14; refine (byte_any x0 x1 x2 x3 x _ hw hr0 hr1).mono ?_; rintro e w1 ⟨rfl, hb1⟩; have hz1 : w.heap.size + 1 ≤ w1.heap.size := by (have := hb1.size; simp at this; omega)) | (go_at_call 13; refine (writeString_any (w.heap.size + 1) (w.heap.size + 1) _ _ w1 (bld_below hbdd hb1) hlen hz1).mono ?_; rintro e w2 ⟨rfl, hbd2, hb2⟩))
      all_goals
        go_wp2_with fail
        go_roundw
        case rel =>
          refine ⟨k + 1, by omega, by go_num, ?_, ?_, ?_⟩
          · rw [hSN.out, toU_append, Lib.byteCells_append]; exact hbd2
          · exact ((hbx.drew).below hb1 hbx.lt).below hb2 (by omega)
          · exact (hbwd.trans (hb1.mono (by simp; omega))).trans (hb2.mono (by omega))
        case measure => simp [intOf]; omega
    · have ek : k = xs.length := by omega
      subst ek
      rw [List.take_length] at hbd
      have hz := hbw.size
      have hbs : w.heap.size < wr.heap.size := hbx.lt
      go_wp2_with (go_at_call 16; refine (Try.Builder_String_any _ _ _ _ hbd (by omega)).mono ?_; rintro e w1 ⟨rfl, hb1⟩)
      go_ret
      exact ⟨rfl, hbw.trans (hb1.mono (by omega))⟩
end Go.Proofs.Ytdgihlelopfdeaa
