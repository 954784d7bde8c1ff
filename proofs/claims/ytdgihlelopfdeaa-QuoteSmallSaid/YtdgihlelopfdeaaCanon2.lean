/-
  QuoteCanonical: the walk.
-/
import Derived.Test.YtdgihlelopfdeaaCanon
import Derived.Test.YtdgihlelopfdeaaWrong
import Derived.StillTailTactics
namespace Go.Proofs.Ytdgihlelopfdeaa
open Go.RowKit Q

/-- A slice of bytes that came in. -/
def Sl8 (w : World) (A : Option Addr) (zs : List Int) : Prop := By zs ∧ zs.length ≤ 9223372036854775807 ∧ Reads w w.heap.size 1 A zs.length (zs.map (Value.int .u8))
theorem Sl8.at_ {w : World} {A : Option Addr} {zs : List Int} {k : Nat} (h : Sl8 w A zs) (hk : k < zs.length) :
    ∃ ad, A = some ad ∧ ad.block < w.heap.size ∧ w.cell? (ad.add k) = some (.int .u8 (zs.getD k 0)) := by
  obtain ⟨ad, u, rfl, hb, hx, hc⟩ := h.2.2.at_ hk
  refine ⟨ad, rfl, hb, hc.trans ?_⟩
  rw [← hx, List.getElem?_map, List.getD_eq_getElem?_getD, List.getElem?_eq_getElem hk]
  rfl
theorem Sl8.below {w w1 : World} {A : Option Addr} {zs : List Int} (h : Sl8 w A zs) (hb : Below w.heap.size w w1) : Sl8 w1 A zs := ⟨h.1, h.2.1, (h.2.2.below hb).more hb.size⟩
theorem sl8_of {w : World} {a : Option Addr} {len cap : Nat} {zs : List Int} (h : (a = none ∧ len = 0 ∧ cap = 0 ∧ zs = []) ∨
    ∃ x, a = some x ∧ len ≤ cap ∧ cap ≤ maxLen ∧ zs.length = cap ∧ (∀ i, i < zs.length → w.cell? (x.add i) = some (.int .u8 (zs.getD i 0))) ∧ ∀ n ∈ zs, (Lit.int .u8 n).wf = true) :
    ∃ ys : List Int, ys.length = len ∧ Sl8 w a ys := by
  rcases h with ⟨rfl, rfl, rfl, rfl⟩ | ⟨x, rfl, hl, hm, hz, hc, hw⟩
  · exact ⟨[], rfl, by intro x hx; simp at hx, by simp, by simpa using Reads.none_⟩
  · refine ⟨zs.take len, by rw [List.length_take]; omega, fun x hx => wf8.1 (hw x (List.mem_of_mem_take hx)), ?_, ?_, fun h0 => ⟨x, rfl, ?_, fun j u hu => ?_⟩⟩
    · rw [List.length_take]; unfold maxLen at hm; omega
    · simp
    · have := World.block_lt_of_cell? w _ (hc 0 (by rw [List.length_take] at h0; omega))
      simpa [block_of_add] using this
    · rw [List.getElem?_map, List.getElem?_take] at hu
      split at hu
      · rename_i hj
        rw [hc j (by omega), List.getD_eq_getElem?_getD]
        rw [← hu, List.getElem?_eq_getElem (show j < zs.length by omega)]
        rfl
      · simp at hu

theorem hexd_slice (n : Int) (h0 : 0 ≤ n) (h1 : n < 16) (w : World) :
    (Instr.slice 9 (.string ⟨#[48, 49, 50, 51, 52, 53, 54, 55, 56, 57, 97, 98, 99, 100, 101, 102]⟩) (some (.int .u8 n)) (some (.int .u8 (n + 1))) none).run Try.prog w = .ok (.string (strOfNums [hexd n])) w := by
  have h : n = 0 ∨ n = 1 ∨ n = 2 ∨ n = 3 ∨ n = 4 ∨ n = 5 ∨ n = 6 ∨ n = 7 ∨ n = 8 ∨ n = 9 ∨ n = 10 ∨ n = 11 ∨ n = 12 ∨ n = 13 ∨ n = 14 ∨ n = 15 := by omega
  rcases h with rfl | rfl | rfl | rfl | rfl | rfl | rfl | rfl | rfl | rfl | rfl | rfl | rfl | rfl | rfl | rfl
  all_goals rfl
theorem hexu_slice (n : Int) (h0 : 0 ≤ n) (h1 : n < 16) (w : World) :
    (Instr.slice 9 (.string ⟨#[48, 49, 50, 51, 52, 53, 54, 55, 56, 57, 65, 66, 67, 68, 69, 70]⟩) (some (.int .u8 n)) (some (.int .u8 (n + 1))) none).run Try.prog w = .ok (.string (strOfNums [hexu n])) w := by
  have h : n = 0 ∨ n = 1 ∨ n = 2 ∨ n = 3 ∨ n = 4 ∨ n = 5 ∨ n = 6 ∨ n = 7 ∨ n = 8 ∨ n = 9 ∨ n = 10 ∨ n = 11 ∨ n = 12 ∨ n = 13 ∨ n = 14 ∨ n = 15 := by omega
  rcases h with rfl | rfl | rfl | rfl | rfl | rfl | rfl | rfl | rfl | rfl | rfl | rfl | rfl | rfl | rfl | rfl
  all_goals rfl

theorem bld_lt {w : World} {T e : TypeId} {B b : Nat} {bs : List Value} (h : Lib.IsBuilder T e B b bs w) : b < w.heap.size := by
  rcases h with ⟨a, v, c, d, f⟩ | ⟨a, v, c, d, f⟩
  · exact lt_of_block c
  · exact lt_of_block c
theorem and_15 (c : Int) (h0 : 0 ≤ c) (h1 : c ≤ 255) : bits .and .u8 c 15 = c % 16 := by
  obtain ⟨n, rfl⟩ := Int.eq_ofNat_of_zero_le h0
  have H : ∀ m : Fin 256, bits .and .u8 ((m.val : Nat) : Int) 15 = ((m.val : Nat) : Int) % 16 := by decide +kernel
  exact H ⟨n, by omega⟩
theorem bldF_below {w w1 : World} {T e : TypeId} {B b : Nat} {bs : List Value} (h : Lib.IsBuilderF T e B b bs w) (hb : Below w.heap.size w w1) : Lib.IsBuilderF T e B b bs w1 := by
  rcases h with ⟨a, v, c, d, f⟩ | ⟨a, v, c, d, f⟩
  · exact .inl ⟨a, v, (hb.block b (lt_of_block c)).trans c, d.kept (row := none) ⟨hb.os, hb.tape, hb.output, hb.size, fun k hk _ => hb.block k hk⟩ (Classical.em _), f⟩
  · exact .inr ⟨a, v, (hb.block b (lt_of_block c)).trans c, d.kept (row := none) ⟨hb.os, hb.tape, hb.output, hb.size, fun k hk _ => hb.block k hk⟩ (Classical.em _), f⟩
/-- What a round of the loop keeps. -/
def RC (x0 x1 x2 x3 : Int) (a zs : List Int) (w : World) (b k : Nat) (wr : World) : Prop :=
  Lib.IsBuilder 36 5 b b (Lib.byteCells (toU (fms (mkd x0 x1 x2 x3) zs 0 (a.take k)))) wr ∧ Blk wr w.heap.size 24 #[.int .u64 x0, .int .u64 x1, .int .u64 x2, .int .u64 x3] ∧ Below w.heap.size w wr

theorem rc_step (x0 x1 x2 x3 : Int) (a zs : List Int) (w : World) (b k : Nat) (wr w2 : World) (s : ByteArray) (hwb : w.heap.size < b) (hk : k < a.length) (hs : s = strOfNums (fm (mkd x0 x1 x2 x3) (a.getD k 0) (wy zs k))) (h : RC x0 x1 x2 x3 a zs w b k wr)
    (hbd : Lib.IsBuilder 36 5 b b (Lib.byteCells (toU (fms (mkd x0 x1 x2 x3) zs 0 (a.take k))) ++ Lib.strCells s) w2) (hb : Below b wr w2) : RC x0 x1 x2 x3 a zs w b (k + 1) w2 := by
  refine ⟨?_, h.2.1.below hb (by omega), h.2.2.trans (hb.mono (by omega))⟩
  rw [fms_snoc (mkd x0 x1 x2 x3) zs a hk, toU_append, Lib.byteCells_append]
  rw [hs] at hbd
  exact hbd

set_option maxRecDepth 100000 in
set_option maxHeartbeats 16000000 in
theorem canon_law (x0 x1 x2 x3 : Int) (xs zs : List Int) (A : Option Addr) (cp : Nat) (w : World) (hw : Words x0 x1 x2 x3) (hx : By xs) (hv : Sl8 w A zs) (h63 : xs.length ≤ 9223372036854775807) :
    Calls Try.prog 5 #[.string (strOfNums xs), .slice A zs.length cp, .agg #[.int .u64 x0, .int .u64 x1, .int .u64 x2, .int .u64 x3]] w fun e w' => e = .returned (.bool true) ∧ Below w.heap.size w w' := by
  have hsx := strOfNums_size xs
  have hk0 := Blk.new w 24 #[.int .u64 x0, .int .u64 x1, .int .u64 x2, .int .u64 x3]
  go_enter Try.func5, Try.ntmps5
  go_upto_region 3 with (first | (go_at_call 10; refine (awake_any _).mono ?_; rintro e w1 ⟨rfl, hb1⟩))
  have hk1 := (hk0.below hb1 hk0.lt)
  have hB1 : Below w.heap.size w w1 := (bl (by go_grown) hb1)
  have hz1 := hk1.lt
  clear hb1 hk0
  have hsl := slice100 xs h63
  have ha := by_take hx 100
  have hla : (xs.take 100).length ≤ 100 := by rw [List.length_take]; omega
  generalize xs.take 100 = a at *
  go_upto_region 4 with fail
  have hsa := strOfNums_size a
  clear hsl
  go_wp2_with fail
  go_loopw [26] (fun i wr => ∃ k : Nat, k ≤ a.length ∧ i = .int .i64 k ∧ RC x0 x1 x2 x3 a zs w w1.heap.size k wr) (fun i _ => a.length - (intOf i).toNat)
  case atStart => exact ⟨0, Nat.zero_le _, rfl, by simpa [fms, toU, Lib.byteCells] using Lib.fresh_isBuilder 36 5 w1, hk1.alloc _, hB1.alloc (by omega) _⟩
  case round =>
    obtain ⟨k, hk, rfl, hrc⟩ := hrel
    by_cases hlt : k < a.length
    · have hix := idx_any ha k hlt
      have hcr := by_getD ha k
      have hbl := Lib.byteCells_length (toU (fms (mkd x0 x1 x2 x3) zs 0 (a.take k)))
      rw [toU_length] at hbl
      have hfl := (fms_len (mkd x0 x1 x2 x3) zs (a.take k) 0).2
      have hvr := hv.below hrc.2.2
      have q0 := hrc.2.1.cell 0
      have q1 := hrc.2.1.cell 1
      have q2 := hrc.2.1.cell 2
      have q3 := hrc.2.1.cell 3
      have hzr := hrc.2.1.lt
      have hlk := List.length_take_le k a
      have hml := hv.2.1
      have hbz := bld_lt hrc.1
      by_cases hz0 : zs.length = 0
      · have HWY : Hid (wy zs k = 0) := by show _ = _; unfold wy; rw [if_pos hz0]
        have hz0' : (zs.length : Int) ≤ 0 := by omega
        clear hz0
        have HB14 := Lib.hid (fun w => byte_any x0 x1 x2 x3 (a.getD k 0) w hw hcr.1 hcr.2)
        have hq4 := (qb_len (mkd x0 x1 x2 x3 (a.getD k 0)) (a.getD k 0)).2
        have hso := strOfNums_size (qb (mkd x0 x1 x2 x3 (a.getD k 0)) (a.getD k 0))
        have HSO : Hid (strOfNums (qb (mkd x0 x1 x2 x3 (a.getD k 0)) (a.getD k 0)) = strOfNums (fm (mkd x0 x1 x2 x3) (a.getD k 0) (wy zs k))) := by
          show _ = _
          rw [HWY.out]; rfl
        generalize strOfNums (qb (mkd x0 x1 x2 x3 (a.getD k 0)) (a.getD k 0)) = so at *
        generalize hgc : a.getD k 0 = c at *
        have HGC := Lib.hid hgc
        clear hgc
        obtain ⟨c0, c1⟩ := hcr
        go_wp2_with fail
        refine (HB14.out _).mono ?_
        rintro e w5 ⟨rfl, hb5⟩
        have hz5 := hb5.size
        go_wp2_with fail
        refine (writeString_any w1.heap.size w1.heap.size _ _ w5 (bld_below hrc.1 hb5) (by rw [hbl]; omega) (by omega)).mono ?_
        rintro e w6 ⟨rfl, hbd6, hb6⟩

        go_wp2_with fail
        go_roundw
        case rel => exact ⟨k + 1, by omega, by go_num, rc_step x0 x1 x2 x3 a zs w w1.heap.size k _ _ _ hz1 hlt (by rw [HGC.out]; exact HSO.out) hrc hbd6 ((hb5.mono (by omega)).trans hb6)⟩
        case measure => simp [intOf]; omega
      · obtain ⟨ad, rfl, hab, hac⟩ := hvr.at_ (k := k % zs.length) (Nat.mod_lt _ (by omega))
        have hmod : (k : Int) % (zs.length : Int) = ((k % zs.length : Nat) : Int) := by omega
        have hjl := Nat.mod_lt k (show 0 < zs.length by omega)
        have hwy0 : wy zs k = zs.getD (k % zs.length) 0 % 4 := by unfold wy; rw [if_neg hz0]
        have hzr2 := by_getD hv.1 (k % zs.length)
        have hz0' : 0 < zs.length := by omega
        generalize zs.getD (k % zs.length) 0 = z at *
        generalize k % zs.length = j at *
        have HWZ := Lib.hid hwy0
        clear hwy0 hz0
        by_cases e0 : z % 4 = 0
        · have HWY : Hid (wy zs k = 0) := by show _ = _; rw [HWZ.out, e0]
          have HB14 := Lib.hid (fun w => byte_any x0 x1 x2 x3 (a.getD k 0) w hw hcr.1 hcr.2)
          have hq4 := (qb_len (mkd x0 x1 x2 x3 (a.getD k 0)) (a.getD k 0)).2
          have hso := strOfNums_size (qb (mkd x0 x1 x2 x3 (a.getD k 0)) (a.getD k 0))
          have HSO : Hid (strOfNums (qb (mkd x0 x1 x2 x3 (a.getD k 0)) (a.getD k 0)) = strOfNums (fm (mkd x0 x1 x2 x3) (a.getD k 0) (wy zs k))) := by
            show _ = _
            rw [HWY.out]; rfl
          generalize strOfNums (qb (mkd x0 x1 x2 x3 (a.getD k 0)) (a.getD k 0)) = so at *
          generalize hgc : a.getD k 0 = c at *
          have HGC := Lib.hid hgc
          clear hgc
          obtain ⟨c0, c1⟩ := hcr
          go_wp2_with fail
          refine (HB14.out _).mono ?_
          rintro e w5 ⟨rfl, hb5⟩
          have hz5 := hb5.size
          go_wp2_with fail
          refine (writeString_any w1.heap.size w1.heap.size _ _ w5 (bld_below hrc.1 hb5) (by rw [hbl]; omega) (by omega)).mono ?_
          rintro e w6 ⟨rfl, hbd6, hb6⟩

          go_wp2_with fail
          go_roundw
          case rel => exact ⟨k + 1, by omega, by go_num, rc_step x0 x1 x2 x3 a zs w w1.heap.size k _ _ _ hz1 hlt (by rw [HGC.out]; exact HSO.out) hrc hbd6 ((hb5.mono (by omega)).trans hb6)⟩
          case measure => simp [intOf]; omega
        by_cases e1 : z % 4 = 1
        · have HWY : Hid (wy zs k = 1) := by show _ = _; rw [HWZ.out, e1]
          clear e0
          generalize hgc : a.getD k 0 = c at *
          have HGC := Lib.hid hgc
          clear hgc
          obtain ⟨c0, c1⟩ := hcr
          have p0 : 0 ≤ c / 16 := by omega
          have p1 : c / 16 < 16 := by omega
          have p2 : 0 ≤ c % 16 := by omega
          have p3 : c % 16 < 16 := by omega
          have s1 := hexd_slice (c / 16) p0 p1
          have s2 := hexu_slice (c % 16) p2 p3
          have hs1 := strOfNums_size [hexd (c / 16)]
          have hs2 := strOfNums_size [hexu (c % 16)]
          have HSO : Hid ((⟨#[92, 120]⟩ : ByteArray) ++ strOfNums [hexd (c / 16)] ++ strOfNums [hexu (c % 16)] = strOfNums (fm (mkd x0 x1 x2 x3) c (wy zs k))) := by
            show _ = _
            rw [HWY.out, show (⟨#[92, 120]⟩ : ByteArray) = strOfNums [92, 120] from rfl, str_append, str_append]; rfl
          generalize strOfNums [hexd (c / 16)] = so1 at *
          generalize strOfNums [hexu (c % 16)] = so2 at *
          simp only [List.length_cons, List.length_nil] at hs1 hs2
          have hand := and_15 c c0 c1
          have hw1 : IntKind.u8.wrap (c / 16 + 1) = c / 16 + 1 := by rw [IntKind.wrap_u8]; omega
          have hw2 : IntKind.u8.wrap (c % 16 + 1) = c % 16 + 1 := by rw [IntKind.wrap_u8]; omega
          have HLN : Hid ((Lib.byteCells (toU (fms (mkd x0 x1 x2 x3) zs 0 (a.take k)))).length + ((⟨#[92, 120]⟩ : ByteArray) ++ so1 ++ so2).size ≤ 140737488355328) := by
            show _ ≤ _
            rw [hbl, ByteArray.size_append, ByteArray.size_append, hs1, hs2]
            show _ + (2 + _ + _) ≤ _
            omega
          go_wp2_with fail
          go_region_with (go_at_call 13; refine (writeString_any w1.heap.size w1.heap.size _ _ wr.drew hrc.1 HLN.out (by show w1.heap.size ≤ wr.heap.size; omega)).mono ?_; rintro e w6 ⟨rfl, hbd6, hb6⟩)
          go_wp2_with fail
          go_roundw
          case rel => exact ⟨k + 1, by omega, by go_num, rc_step x0 x1 x2 x3 a zs w w1.heap.size k wr _ _ hz1 hlt (by rw [HGC.out]; exact HSO.out) hrc hbd6 ((Below.refl _ wr).drew.trans hb6)⟩
          case measure => simp [intOf]; omega
        · have HWY : Hid (fm (mkd x0 x1 x2 x3) (a.getD k 0) (wy zs k) = [92, 120, hexu (a.getD k 0 / 16), hexd (a.getD k 0 % 16)]) := by
            show _ = _
            unfold fm
            rw [HWZ.out, if_neg e0, if_neg e1]
          have e0' : (z % 4 == 0) = false := beq_eq_false_iff_ne.2 e0
          have e1' : (z % 4 == 1) = false := beq_eq_false_iff_ne.2 e1
          clear e0 e1
          generalize hgc : a.getD k 0 = c at *
          have HGC := Lib.hid hgc
          clear hgc
          obtain ⟨c0, c1⟩ := hcr
          have p0 : 0 ≤ c / 16 := by omega
          have p1 : c / 16 < 16 := by omega
          have p2 : 0 ≤ c % 16 := by omega
          have p3 : c % 16 < 16 := by omega
          have s1 := hexu_slice (c / 16) p0 p1
          have s2 := hexd_slice (c % 16) p2 p3
          have hs1 := strOfNums_size [hexu (c / 16)]
          have hs2 := strOfNums_size [hexd (c % 16)]
          have HSO : Hid ((⟨#[92, 120]⟩ : ByteArray) ++ strOfNums [hexu (c / 16)] ++ strOfNums [hexd (c % 16)] = strOfNums (fm (mkd x0 x1 x2 x3) c (wy zs k))) := by
            show _ = _
            rw [HWY.out, show (⟨#[92, 120]⟩ : ByteArray) = strOfNums [92, 120] from rfl, str_append, str_append]; rfl
          generalize strOfNums [hexu (c / 16)] = so1 at *
          generalize strOfNums [hexd (c % 16)] = so2 at *
          simp only [List.length_cons, List.length_nil] at hs1 hs2
          have hand := and_15 c c0 c1
          have hw1 : IntKind.u8.wrap (c / 16 + 1) = c / 16 + 1 := by rw [IntKind.wrap_u8]; omega
          have hw2 : IntKind.u8.wrap (c % 16 + 1) = c % 16 + 1 := by rw [IntKind.wrap_u8]; omega
          have HLN : Hid ((Lib.byteCells (toU (fms (mkd x0 x1 x2 x3) zs 0 (a.take k)))).length + ((⟨#[92, 120]⟩ : ByteArray) ++ so1 ++ so2).size ≤ 140737488355328) := by
            show _ ≤ _
            rw [hbl, ByteArray.size_append, ByteArray.size_append, hs1, hs2]
            show _ + (2 + _ + _) ≤ _
            omega
          go_wp2_with fail
          go_region_with (go_at_call 13; refine (writeString_any w1.heap.size w1.heap.size _ _ wr.drew hrc.1 HLN.out (by show w1.heap.size ≤ wr.heap.size; omega)).mono ?_; rintro e w6 ⟨rfl, hbd6, hb6⟩)
          go_wp2_with fail
          go_roundw
          case rel => exact ⟨k + 1, by omega, by go_num, rc_step x0 x1 x2 x3 a zs w w1.heap.size k wr _ _ hz1 hlt (by rw [HGC.out]; exact HSO.out) hrc hbd6 ((Below.refl _ wr).drew.trans hb6)⟩
          case measure => simp [intOf]; omega
    · obtain rfl : k = a.length := by omega
      obtain ⟨hbd, hbk, hB⟩ := hrc
      rw [List.take_length] at hbd
      have hmk := mkd_ok x0 x1 x2 x3
      have hfl := fms_len (mkd x0 x1 x2 x3) zs a 0
      have hlb : (Lib.byteCells (toU (fms (mkd x0 x1 x2 x3) zs 0 a))).length = (fms (mkd x0 x1 x2 x3) zs 0 a).length := by rw [Lib.byteCells_length, toU_length]
      have hql := strOfNums_size (qbs (mkd x0 x1 x2 x3) a)
      have hC1 := fun w => canonical_any x0 x1 x2 x3 (fms (mkd x0 x1 x2 x3) zs 0 a) w hw (by_fms _ zs a 0 ha) (by omega) a ((fms (mkd x0 x1 x2 x3) zs 0 a).length : Int) 0
        (by rw [rbs_fms _ hmk zs a _ 0 0 [] ha (Nat.le_refl _)]; simp) (by rw [rbs_fms _ hmk zs a _ 0 0 [] ha (Nat.le_refl _)]; simp) (by rw [rbs_fms _ hmk zs a _ 0 0 [] ha (Nat.le_refl _)]) ha (by omega)
      have hC2 := fun w => canonical_any x0 x1 x2 x3 (qbs (mkd x0 x1 x2 x3) a) w hw (by_qbs _ ha) (by omega) a ((qbs (mkd x0 x1 x2 x3) a).length : Int) 0
        (by rw [rbs_qbs _ hmk a _ 0 [] ha (Nat.le_refl _)]; simp) (by rw [rbs_qbs _ hmk a _ 0 [] ha (Nat.le_refl _)]; simp) (by rw [rbs_qbs _ hmk a _ 0 [] ha (Nat.le_refl _)]) ha (by omega)
      have hS : (⟨(toU (fms (mkd x0 x1 x2 x3) zs 0 a)).toArray⟩ : ByteArray) = strOfNums (fms (mkd x0 x1 x2 x3) zs 0 a) := rfl
      have hbdf := Lib.IsBuilderF.of hbd
      have HST := Lib.hid (fun (wq : World) (hq : Lib.IsBuilderF 36 5 w1.heap.size w1.heap.size (Lib.byteCells (toU (fms (mkd x0 x1 x2 x3) zs 0 a))) wq) (hz : w1.heap.size ≤ wq.heap.size) => Try.Builder_String_any_f w1.heap.size w1.heap.size (toU (fms (mkd x0 x1 x2 x3) zs 0 a)) wq hq hz)
      rw [hS] at HST
      have HLN := Lib.hid (fun (wq : World) (hq : Lib.IsBuilderF 36 5 w1.heap.size w1.heap.size (Lib.byteCells (toU (fms (mkd x0 x1 x2 x3) zs 0 a))) wq) => Try.Builder_Len_f w1.heap.size w1.heap.size (Lib.byteCells (toU (fms (mkd x0 x1 x2 x3) zs 0 a))) wq hq)
      rw [hlb] at HLN
      have HC1 := Lib.hid hC1
      have HC2 := Lib.hid hC2
      have HBY := Lib.hid (fun w => bytes_any x0 x1 x2 x3 a w hw ha (by omega))
      have hbz := bld_lt hbd
      have hzr := hbk.lt
      clear hC1 hC2 hS hlb hbd hv
      generalize strOfNums (fms (mkd x0 x1 x2 x3) zs 0 a) = sf at *
      generalize strOfNums (qbs (mkd x0 x1 x2 x3) a) = sq at *
      generalize (fms (mkd x0 x1 x2 x3) zs 0 a).length = lf at *
      generalize (qbs (mkd x0 x1 x2 x3) a).length = lq at *
      generalize Lib.byteCells (toU (fms (mkd x0 x1 x2 x3) zs 0 a)) = bs at *
      generalize strOfNums a = sa at *
      go_upto_region 19 with fail
      go_cut [11, 12, 13] from 83 to 89 (fun t n e wx => t = .string sq ∧ n = .int .i64 (lf : Int) ∧ e = .int .i64 0 ∧ Lib.IsBuilderF 36 5 w1.heap.size w1.heap.size bs wx ∧ Blk wx w.heap.size 24 #[.int .u64 x0, .int .u64 x1, .int .u64 x2, .int .u64 x3] ∧ Below w.heap.size w wx)
      case first =>
        have q0 := hbk.cell 0
        have q1 := hbk.cell 1
        have q2 := hbk.cell 2
        have q3 := hbk.cell 3
        go_region_with (first | (go_at_call 16; refine (HST.out _ (show Lib.IsBuilderF 36 5 w1.heap.size w1.heap.size bs wr.drew from hbdf) (by show w1.heap.size ≤ wr.heap.size; omega)).mono ?_; rintro e w2 ⟨rfl, hbd2, hb2⟩; have hbk2 := hbk.drew.below hb2 hz1; have q0 := hbk2.cell 0; have q1 := hbk2.cell 1; have q2 := hbk2.cell 2; have q3 := hbk2.cell 3) | (go_at_call 15; refine (HC1.out _).mono ?_; rintro e w3 ⟨rfl, hb3⟩))
        all_goals
          go_wp2_with fail
          go_meet
          exact ⟨rfl, rfl, rfl, bldF_below hbd2 hb3, hbk2.below hb3 hbk2.lt, bl (hB.drew.trans (hb2.mono (by omega))) hb3⟩
      case rest =>
        obtain ⟨rfl, rfl, rfl, hbd2, hbk2, hB2⟩ := hcut
        have q0 := hbk2.cell 0
        have q1 := hbk2.cell 1
        have q2 := hbk2.cell 2
        have q3 := hbk2.cell 3
        clear hbdf hbk hB HST HC1
        go_wp2_with fail
        refine (HC2.out _).mono ?_
        rintro e w4 ⟨rfl, hb4⟩
        have hbd4 := bldF_below hbd2 hb4
        have hbk4 := hbk2.below hb4 hbk2.lt
        have hB4 := bl hB2 hb4
        have q0 := hbk4.cell 0
        have q1 := hbk4.cell 1
        have q2 := hbk4.cell 2
        have q3 := hbk4.cell 3
        clear hb4 hbd2 hbk2 hB2 HC2
        go_wp2_with (first | (go_at_call 17; refine (HLN.out _ hbd4).mono ?_; rintro e w5 ⟨rfl, rfl⟩) | (go_at_call 18; refine (HBY.out _).mono ?_; rintro e w6 ⟨rfl, hb6⟩))
        all_goals go_ret
        exact ⟨rfl, bl hB4 hb6⟩
end Go.Proofs.Ytdgihlelopfdeaa
