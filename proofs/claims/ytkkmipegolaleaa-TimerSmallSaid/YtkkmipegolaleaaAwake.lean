/-
  The chapter's examples (awake) hold in every world.
-/
import Derived.Test.YtkkmipegolaleaaGo
import Derived.Test.YtkkmipegolaleaaTick
namespace Go.Proofs.Ytkkmipegolaleaa
open Go.RowKit T

theorem sl_blk {w : World} {b : Nat} (zs : List Int) (h : Blk w b 3 (zs.map (Value.int .i64)).toArray) (hm : zs.length ≤ 1000) : Sl w (some ⟨b, 0, none⟩) zs := by
  refine ⟨by omega, by simp, fun h0 => ⟨_, rfl, h.lt, fun j u hu => ?_⟩⟩
  have hc := h.cell j
  rw [List.getElem?_toArray, hu] at hc
  rw [← hc]
  unfold Addr.add
  split
  · rename_i h; subst h; rfl
  · simp
theorem Tm.below {w w1 : World} {t : Nat} {i k a : Int} {f : Bool} (h : Tm w t i k a f) (hb : Below w.heap.size w w1) : Tm w1 t i k a f := Blk.below (B := w.heap.size) h hb (Blk.lt h)
theorem below_only {B : Nat} {w w1 w2 : World} {t : Nat} (h : Below B w w1) (h2 : w1.grownBy w2 (some t)) (ht : B ≤ t) (hB : B ≤ w1.heap.size) : Below B w w2 := h.grown h2 hB (fun k e => by injection e with e; omega)

set_option maxHeartbeats 1000000 in
set_option maxRecDepth 100000 in
theorem awake_any (w : World) : Calls Try.prog 10 #[] w fun e w' => e = .returned (.bool true) ∧ Below w.heap.size w w' := by
  have hv : Sl (w.alloc (.cells #[.int .i64 5, .int .i64 3, .int .i64 3, .int .i64 9] 3)) (some ⟨w.heap.size, 0, none⟩) [5, 3, 3, 9] := sl_blk _ (Blk.new w 3 _) (by decide)
  have hb0 : Below w.heap.size w (w.alloc (.cells #[.int .i64 5, .int .i64 3, .int .i64 3, .int .i64 9] 3)) := (Below.refl _ _).alloc (Nat.le_refl _) _
  have hc : chk [5, 3, 3, 9] = 0 := by decide
  have hx : ix [5, 3, 3, 9] = 1 := by decide
  have ht : tk [5, 3, 3, 9] = 3 := by decide
  have HC := Lib.hid hc
  have HX := Lib.hid hx
  have HT := Lib.hid ht
  clear hc hx ht
  go_enter Try.func10, Try.ntmps10
  go_wp2_with fail
  refine (first_some [5, 3, 3, 9] _ 4 _ hv HC.out 1 3 HX.out HT.out (by omega)).mono ?_
  rintro e w1 ⟨rfl, hb1⟩
  have hv1 := hv.below hb1
  have hB1 := hb0.trans (hb1.mono hb0.size)
  clear hv hb0 hb1
  go_wp2_with fail
  refine (only_some [5, 3, 3, 9] _ 4 _ hv1 HC.out 1 3 HX.out HT.out (by omega)).mono ?_
  rintro e w2 ⟨b2, rfl, hlt2, blk2, hb2⟩
  have hv2 := hv1.below hb2
  have hB2 := hB1.trans (hb2.mono hB1.size)
  have so2 : Sl w2 (some ⟨b2, 0, none⟩) [3] := sl_blk [3] blk2 (by decide)
  clear hv1 hb2
  go_wp2_with fail
  refine (go_some [5, 3, 3, 9] _ 4 0 2 _ hv2 HC.out 1 3 HX.out HT.out (by omega) (by omega) (by omega) (by omega) (by omega) (by omega)).mono ?_
  rintro e w3 ⟨rfl, hb3⟩
  have hv3 := hv2.below hb3
  have hB3 := hB2.trans (hb3.mono hB2.size)
  have so3 := so2.below hb3
  clear hv2 hb3 so2
  go_wp2_with fail
  refine (go_some [5, 3, 3, 9] _ 4 0 10 _ hv3 HC.out 1 3 HX.out HT.out (by omega) (by omega) (by omega) (by omega) (by omega) (by omega)).mono ?_
  rintro e w4 ⟨rfl, hb4⟩
  have hv4 := hv3.below hb4
  have hB4 := hB3.trans (hb4.mono hB3.size)
  have so4 := so3.below hb4
  clear hv3 hb4 so3
  go_wp2_with fail
  refine (go_over [5, 3, 3, 9] _ 4 3 1 _ hv4 HC.out 1 3 HX.out HT.out (by omega) (by omega) (by omega) (by omega) (by omega)).mono ?_
  rintro e w5 ⟨rfl, hb5⟩
  have hv5 := hv4.below hb5
  have hB5 := hB4.trans (hb5.mono hB4.size)
  have so5 := so4.below hb5
  clear hv4 hb5 so4
  go_wp2_with fail
  refine (rounds_some [5, 3, 3, 9] _ 4 10 _ hv5 HC.out 1 3 HX.out HT.out (by omega) (by omega) (by omega) (by omega) (by omega)).mono ?_
  rintro e w6 ⟨rfl, hb6⟩
  have hv6 := hv5.below hb6
  have hB6 := hB5.trans (hb6.mono hB5.size)
  have so6 := so5.below hb6
  clear hv5 hb6 so5
  go_wp2_with fail
  refine (new_ok [5, 3, 3, 9] _ 4 _ hv6 HC.out).mono ?_
  rintro e w7 ⟨t, rfl, hlt7, tm7, hb7⟩
  rw [HX.out, HT.out] at tm7
  have hB7 := hB6.trans (hb7.mono hB6.size)
  have so7 := so6.below hb7
  have htB : w.heap.size ≤ t := by have := hB6.size; omega
  clear hv6 hb7 so6
  go_wp2_with fail
  have son : Sl (w7.alloc (.cells #[.int .i64 3] 3)) (some ⟨w7.heap.size, 0, none⟩) [3] := sl_blk [3] (Blk.new w7 3 _) (by decide)
  refine (equal_any [3] [3] _ _ 1 1 1 1 _ rfl rfl (so7.alloc _) son).mono ?_
  rintro e w8 ⟨rfl, hb8⟩
  have tm8 := (Tm.below tm7 ((Below.refl _ _).alloc (Nat.le_refl _) _)).below hb8
  have hB8 := (hB7.alloc hB7.size _).trans (hb8.mono (by have := hB7.size; simp; omega))
  clear hB7 so7 son hb8 tm7
  go_wp2_with fail
  refine (tick_early t 1 3 0 _ tm8 (by omega) (by omega) (by omega) (by omega)).mono ?_
  rintro e w9 ⟨rfl, og9, tm9⟩
  have hB9 := below_only hB8 og9 htB hB8.size
  clear tm8 og9
  go_wp2_with fail
  refine (tick_early t 1 3 _ _ tm9 (by omega) (by omega) (by omega) (by omega)).mono ?_
  rintro e w10 ⟨rfl, og10, tm10⟩
  have hB10 := below_only hB9 og10 htB hB9.size
  clear tm9 og10
  go_wp2_with fail
  refine (left_runs t 1 3 _ _ tm10 (by omega) (by omega) (by omega) (by omega) (by omega)).mono ?_
  rintro e w11 ⟨rfl, hb11⟩
  have hB11 := hB10.trans (hb11.mono hB10.size)
  have tm11 := tm10.below hb11
  clear tm10 hb11
  go_wp2_with fail
  refine (tick_fires t 1 3 _ _ tm11 (by omega) (by omega) (by omega) (by omega)).mono ?_
  rintro e w12 ⟨rfl, og12, tm12⟩
  have hB12 := below_only hB11 og12 htB hB11.size
  clear tm11 og12
  go_wp2_with fail
  refine (tick_fired t 1 3 _ _ tm12).mono ?_
  rintro e w13 ⟨rfl, rfl⟩
  go_wp2_with fail
  refine (fired_any t 1 3 _ true _ tm12).mono ?_
  rintro e w14 ⟨rfl, rfl⟩
  go_wp2_with fail
  go_ret
  exact ⟨rfl, hB12⟩
end Go.Proofs.Ytkkmipegolaleaa
