/-
  TimerSmall: the closed statement of the timer's law.
-/
import Derived.Test.YtkkmipegolaleaaTicks
import Derived.Test.YtkkmipegolaleaaRep
namespace Go.Proofs.Ytkkmipegolaleaa
open Go.RowKit T

/-- ticks: whatever the lists. -/
theorem ticks_any (zs ys : List Int) (A A' : Option Addr) (c c' : Nat) (n : Nat) (w : World) (hv : Sl w A zs) (hv' : Sl w A' ys) (hl : zs.length ≤ 100) (hn : n ≤ 100) :
    Calls Try.prog 22 #[.slice A zs.length c, .slice A' ys.length c', .int .i64 n] w fun e w' => e = .returned (.bool true) ∧ Below w.heap.size w w' := by
  by_cases hc : chk zs = 0
  · exact ticks_ok zs ys A A' c c' n w hv hv' hl hn hc
  · exact ticks_bad zs A A' c _ c' n w hv hl hc

/-- A slice of a block's cells. -/
theorem sl_part {w : World} {b o : Nat} {cs : Array Value} (zs : List Int) (h : Blk w b 3 cs) (hc : ∀ j, j < zs.length → cs[o + j]? = some (.int .i64 (zs.getD j 0))) (hm : zs.length ≤ 100000) : Sl w (some ⟨b, o, none⟩) zs := by
  refine ⟨by omega, by simp, fun h0 => ⟨_, rfl, h.lt, fun j u hu => ?_⟩⟩
  have hj : j < zs.length := by
    have := (List.getElem?_eq_some_iff.1 hu).1
    simpa using this
  have e : (⟨b, o, none⟩ : Addr).add j = ⟨b, o + j, none⟩ := by unfold Addr.add; split <;> simp_all
  rw [e, h.cell, hc j hj, ← hu, List.getElem?_map, List.getElem?_eq_getElem hj, List.getD_eq_getElem?_getD, List.getElem?_eq_getElem hj]
  rfl

theorem three_sl {w : World} {g : Nat} (a b c : Int) (k : Nat) (hk : k ≤ 3) (hB : Blk w g 3 #[.int .i64 a, .int .i64 b, .int .i64 c]) : ∃ zs : List Int, zs.length = k ∧ Sl w (some ⟨g, 0, none⟩) zs := by
  refine ⟨[a, b, c].take k, by simp; omega, sl_part _ hB (fun j hj => ?_) (by simp; omega)⟩
  have hj4 : j < min k 3 := by simpa using hj
  have hj3 : j < k ∧ j < 3 := by omega
  rw [List.getD_eq_getElem?_getD, List.getElem?_take, if_pos hj3.1]
  have : j = 0 ∨ j = 1 ∨ j = 2 := by omega
  rcases this with rfl | rfl | rfl <;> simp
theorem three_tells {w : World} {g : Nat} (a b c : Int) (k : Nat) (x n : Int) (hk : k ≤ 3) (hB : Blk w g 3 #[.int .i64 a, .int .i64 b, .int .i64 c]) (hn0 : -9223372036854775808 ≤ n) (hn : n ≤ 9223372036854775807) :
    Calls Try.prog 9 #[.slice (some ⟨g, 0, none⟩) k 3, .int .i64 x, .int .i64 n] w fun e w' => e = .returned (.bool true) ∧ Below w.heap.size w w' := by
  obtain ⟨zs, rfl, h⟩ := three_sl a b c k hk hB
  exact tells_any zs _ 3 x n w h (by omega) hn0 hn
theorem three_ticks {w : World} {g g2 : Nat} (a b c a' b' c' : Int) (k : Nat) (n : Nat) (hk : k ≤ 3) (hB : Blk w g 3 #[.int .i64 a, .int .i64 b, .int .i64 c]) (hB2 : Blk w g2 3 #[.int .i64 a', .int .i64 b', .int .i64 c']) (hn : n ≤ 100) :
    Calls Try.prog 22 #[.slice (some ⟨g, 0, none⟩) k 3, .slice (some ⟨g2, 0, none⟩) 3 3, .int .i64 n] w fun e w' => e = .returned (.bool true) ∧ Below w.heap.size w w' := by
  obtain ⟨zs, rfl, h⟩ := three_sl a b c k hk hB
  exact ticks_any zs [a', b', c'] _ _ 3 3 n w h (sl_blk [a', b', c'] hB2 (by simp)) (by omega) hn

/-- A timer that is none: it is not the kind that New returned. -/
def NoT (w : World) (p : Value) : Prop := Calls Try.prog 34 #[p] w fun e w' => e = .returned (.bool false) ∧ w = w'
theorem noT_nil (w : World) : NoT w (.pointer none) := by
  unfold NoT
  go_enter Try.func34, Try.ntmps34
  go_wp2
  go_ret
  exact ⟨rfl, rfl⟩
theorem noT_zero (t : Nat) (w : World) (ht : Blk w t 50 #[.int .i64 0, .int .i64 0, .int .i64 0, .bool false, .bool false]) : NoT w (.pointer (some ⟨t, 0, none⟩)) := by
  have h3 := ht.cell 4
  unfold NoT
  go_enter Try.func34, Try.ntmps34
  go_wp2
  go_ret
  exact ⟨rfl, rfl⟩
set_option maxHeartbeats 400000 in
theorem tick_no (p : Value) (w : World) (h : NoT w p) : Calls Try.prog 15 #[p] w fun e w' => e = .returned (.tuple #[.int .i64 0, .bool false, .int .i64 1]) ∧ w = w' := by
  unfold NoT at h
  have H := Lib.hid h
  clear h
  go_enter Try.func15, Try.ntmps15
  go_wp2_with (go_at_call 34; refine H.out.mono ?_; rintro e w' ⟨rfl, rfl⟩)
  go_ret3
  exact ⟨rfl, rfl⟩
set_option maxHeartbeats 400000 in
theorem left_no (p : Value) (w : World) (h : NoT w p) : Calls Try.prog 16 #[p] w fun e w' => e = .returned (.tuple #[.int .i64 0, .bool false]) ∧ w = w' := by
  unfold NoT at h
  have H := Lib.hid h
  clear h
  go_enter Try.func16, Try.ntmps16
  go_wp2_with (go_at_call 34; refine H.out.mono ?_; rintro e w' ⟨rfl, rfl⟩)
  go_ret2
  exact ⟨rfl, rfl⟩
set_option maxHeartbeats 400000 in
theorem at_no (p : Value) (w : World) (h : NoT w p) : Calls Try.prog 17 #[p] w fun e w' => e = .returned (.int .i64 0) ∧ w = w' := by
  unfold NoT at h
  have H := Lib.hid h
  clear h
  go_enter Try.func17, Try.ntmps17
  go_wp2_with (go_at_call 34; refine H.out.mono ?_; rintro e w' ⟨rfl, rfl⟩)
  go_ret
  exact ⟨rfl, rfl⟩
set_option maxHeartbeats 400000 in
theorem fired_no (p : Value) (w : World) (h : NoT w p) : Calls Try.prog 18 #[p] w fun e w' => e = .returned (.bool false) ∧ w = w' := by
  unfold NoT at h
  have H := Lib.hid h
  clear h
  go_enter Try.func18, Try.ntmps18
  go_wp2_with (go_at_call 34; refine H.out.mono ?_; rintro e w' ⟨rfl, rfl⟩)
  go_ret
  exact ⟨rfl, rfl⟩
set_option maxHeartbeats 400000 in
theorem enter_no (p l : Value) (w : World) (h : NoT w p) : Calls Try.prog 21 #[p, l] w fun e w' => e = .returned (.int .i64 1) ∧ w = w' := by
  unfold NoT at h
  have H := Lib.hid h
  clear h
  go_enter Try.func21, Try.ntmps21
  go_wp2_with (go_at_call 34; refine H.out.mono ?_; rintro e w' ⟨rfl, rfl⟩)
  go_ret
  exact ⟨rfl, rfl⟩

@[reducible] def ends8 : Array Value := #[.int .i64 (-9223372036854775808), .int .i64 (-1), .int .i64 0, .int .i64 1, .int .i64 999, .int .i64 1000, .int .i64 1001, .int .i64 9223372036854775807]
theorem ends_cell {w : World} {g : Nat} (h : Blk w g 3 ends8) (j : Nat) (hj : j < 8) : ∃ a : Int, w.cell? ⟨g, j, none⟩ = some (.int .i64 a) ∧ -9223372036854775808 ≤ a ∧ a ≤ 9223372036854775807 := by
  have : j = 0 ∨ j = 1 ∨ j = 2 ∨ j = 3 ∨ j = 4 ∨ j = 5 ∨ j = 6 ∨ j = 7 := by omega
  rcases this with rfl | rfl | rfl | rfl | rfl | rfl | rfl | rfl
  all_goals exact ⟨_, h.cell _, by omega, by omega⟩

/-- Blocks that stay. -/
theorem blk_keep {w w1 : World} {g : Nat} {t : TypeId} {cs : Array Value} (h : Blk w g t cs) (hb : Below w.heap.size w w1) : Blk w1 g t cs := h.below hb h.lt

def Thr (w : World) (g : Nat) : Prop := ∃ a b c : Int, Blk w g 3 #[.int .i64 a, .int .i64 b, .int .i64 c]
theorem thr_keep {w w1 : World} {g : Nat} (h : Thr w g) (hb : Below w.heap.size w w1) : Thr w1 g := by
  obtain ⟨a, b, c, h⟩ := h
  exact ⟨a, b, c, blk_keep h hb⟩
theorem thr_tells {w : World} {g : Nat} (k : Nat) (x n : Int) (hk : k < 4) (h : Thr w g) (hn0 : -9223372036854775808 ≤ n) (hn : n ≤ 9223372036854775807) :
    Calls Try.prog 9 #[.slice (some ⟨g, 0, none⟩) k 3, .int .i64 x, .int .i64 n] w fun e w' => e = .returned (.bool true) ∧ Below w.heap.size w w' := by
  obtain ⟨a, b, c, h⟩ := h
  exact three_tells a b c k x n (by omega) h hn0 hn
theorem thr_ticks {w : World} {g : Nat} (k : Nat) (n : Nat) (hk : k < 4) (h : Thr w g) (hn : n ≤ 100) :
    Calls Try.prog 22 #[.slice (some ⟨g, 0, none⟩) k 3, .slice (some ⟨w.heap.size, 0, none⟩) 3 3, .int .i64 n] (w.alloc (.cells #[.int .i64 2, .int .i64 1, .int .i64 1] 3)) fun e w' => e = .returned (.bool true) ∧ Below (w.alloc (.cells #[.int .i64 2, .int .i64 1, .int .i64 1] 3)).heap.size (w.alloc (.cells #[.int .i64 2, .int .i64 1, .int .i64 1] 3)) w' := by
  obtain ⟨a, b, c, h⟩ := h
  exact three_ticks a b c 2 1 1 k n (by omega) (h.alloc _) (Blk.new _ _ _) hn

theorem one_sl (w : World) (a : Int) : Sl (w.alloc (.cells #[.int .i64 a] 3)) (some ⟨w.heap.size, 0, none⟩) [a] := sl_blk [a] (Blk.new w 3 _) (by simp)
theorem two_sl (w : World) (a b : Int) : Sl (w.alloc (.cells #[.int .i64 a, .int .i64 b] 3)) (some ⟨w.heap.size, 0, none⟩) [a, b] := sl_blk [a, b] (Blk.new w 3 _) (by simp)

/-- A list of 13 ones in memory. -/
def Ones (w : World) (g : Nat) : Prop := Blk w g 3 ((List.replicate 13 [Value.int .i64 1]).flatten).toArray
theorem ones_keep {w w1 : World} {g : Nat} (h : Ones w g) (hb : Below w.heap.size w w1) : Ones w1 g := blk_keep h hb
theorem ones_sl {w : World} {g : Nat} (h : Ones w g) : Sl w (some ⟨g, 0, none⟩) (List.replicate 13 1) :=
  sl_part _ h (fun j hj => by
    have : j < 13 := by simpa using hj
    have : j = 0 ∨ j = 1 ∨ j = 2 ∨ j = 3 ∨ j = 4 ∨ j = 5 ∨ j = 6 ∨ j = 7 ∨ j = 8 ∨ j = 9 ∨ j = 10 ∨ j = 11 ∨ j = 12 := by omega
    rcases this with rfl | rfl | rfl | rfl | rfl | rfl | rfl | rfl | rfl | rfl | rfl | rfl | rfl <;> rfl) (by simp)
theorem ones_sl1 {w : World} {g : Nat} (h : Ones w g) : Sl w (some ⟨g, 1, none⟩) (List.replicate 12 1) :=
  sl_part _ h (fun j hj => by
    have : j < 12 := by simpa using hj
    have : j = 0 ∨ j = 1 ∨ j = 2 ∨ j = 3 ∨ j = 4 ∨ j = 5 ∨ j = 6 ∨ j = 7 ∨ j = 8 ∨ j = 9 ∨ j = 10 ∨ j = 11 := by omega
    rcases this with rfl | rfl | rfl | rfl | rfl | rfl | rfl | rfl | rfl | rfl | rfl | rfl <;> rfl) (by simp)

set_option maxHeartbeats 16000000 in
set_option maxRecDepth 100000 in
theorem small_any (w : World) : Calls Try.prog 7 #[] w fun e w' => e = .returned (.bool true) ∧ Below w.heap.size w w' := by
  go_enter Try.func7, Try.ntmps7
  go_wp2_with fail
  go_loopw [18] (fun v wr => ∃ m : Nat, m ≤ 125 ∧ v = .int .i64 m ∧ Below w.heap.size w wr) (fun v _ => 125 - (intOf v).toNat)
  case atStart => exact ⟨0, by omega, rfl, Below.refl _ _⟩
  case round =>
    obtain ⟨m, hm, rfl, hbr⟩ := hrel
    by_cases hlt : m < 125
    · have hs := hbr.size
      have hdm : decide ((m : Int) < 125) = true := by simp; omega
      obtain ⟨w1, rfl⟩ : ∃ w1 : World, w1 = wr := ⟨_, rfl⟩
      go_wp2_with fail
      go_loopw [29] (fun v wr => ∃ k : Nat, k ≤ 4 ∧ v = .int .i64 k ∧ Thr wr w1.heap.size ∧ Below w.heap.size w wr) (fun v _ => 4 - (intOf v).toNat)
      case atStart => exact ⟨0, by omega, rfl, ⟨_, _, _, Blk.new _ _ _⟩, hbr.alloc hs _⟩
      case round =>
        obtain ⟨k, hk, rfl, hG, hbk⟩ := hrel
        by_cases hk4 : k < 4
        · have hdk : decide ((k : Int) < 4) = true := by simp; omega
          go_wp2_with fail
          go_loopw [32] (fun v wr => ∃ n : Nat, n ≤ 7 ∧ v = .int .i64 n ∧ Thr wr w1.heap.size ∧ Below w.heap.size w wr) (fun v _ => 7 - (intOf v).toNat)
          case atStart => exact ⟨0, by omega, rfl, hG, hbk⟩
          case round =>
            clear hG hbk
            obtain ⟨n, hn, rfl, hG, hbn⟩ := hrel
            by_cases hn7 : n < 7
            · by_cases hn6 : n = 6
              · have hb6 : ((n : Int) == 6) = true := beq_iff_eq.2 (by omega)
                clear hn6
                go_wp2_with fail
                refine (thr_tells k _ _ hk4 hG (by omega) (by omega)).mono ?_
                rintro e x1 ⟨rfl, hb1⟩
                have G1 := thr_keep hG hb1
                have X1 := hbn.trans (hb1.mono hbn.size)
                clear hG hbn hb1
                go_wp2_with fail
                refine (thr_tells k _ _ hk4 G1 (by omega) (by omega)).mono ?_
                rintro e x2 ⟨rfl, hb2⟩
                have G2 := thr_keep G1 hb2
                have X2 := X1.trans (hb2.mono X1.size)
                clear G1 X1 hb2
                go_wp2_with fail
                refine (thr_ticks k n hk4 G2 (by omega)).mono ?_
                rintro e x3 ⟨rfl, hb3⟩
                have hb4 : Below x2.heap.size x2 x3 := bl ((Below.refl _ _).alloc (Nat.le_refl _) _) hb3
                have G3 := thr_keep G2 hb4
                have X3 := X2.trans (hb4.mono X2.size)
                clear G2 X2 hb3 hb4
                go_wp2_with fail
                go_roundw
                case rel => first | exact ⟨n + 1, by omega, by go_num, G3, X3⟩ | ((repeat apply Exists.intro); exact ⟨⟨n + 1, by omega, by go_num, G3, X3⟩, rfl⟩)
                case measure => simp [intOf]; omega
              · have hb6 : ((n : Int) == 6) = false := beq_eq_false_iff_ne.2 (by omega)
                clear hn6
                go_wp2_with fail
                refine (thr_tells k _ _ hk4 hG (by omega) (by omega)).mono ?_
                rintro e x1 ⟨rfl, hb1⟩
                have G1 := thr_keep hG hb1
                have X1 := hbn.trans (hb1.mono hbn.size)
                clear hG hbn hb1
                go_wp2_with fail
                refine (thr_tells k _ _ hk4 G1 (by omega) (by omega)).mono ?_
                rintro e x2 ⟨rfl, hb2⟩
                have G2 := thr_keep G1 hb2
                have X2 := X1.trans (hb2.mono X1.size)
                clear G1 X1 hb2
                go_wp2_with fail
                go_roundw
                case rel => first | exact ⟨n + 1, by omega, by go_num, G2, X2⟩ | ((repeat apply Exists.intro); exact ⟨⟨n + 1, by omega, by go_num, G2, X2⟩, rfl⟩)
                case measure => simp [intOf]; omega
            · go_wp2_with fail
              go_roundw
              case rel => first | exact ⟨k + 1, by omega, by go_num, hG, hbn⟩ | ((repeat apply Exists.intro); exact ⟨⟨k + 1, by omega, by go_num, hG, hbn⟩, rfl⟩)
              case measure => simp [intOf]; omega
        · go_wp2_with fail
          go_roundw
          case rel => first | exact ⟨m + 1, by omega, by go_num, hbk⟩ | ((repeat apply Exists.intro); exact ⟨⟨m + 1, by omega, by go_num, hbk⟩, rfl⟩)
          case measure => simp [intOf]; omega
    · have hdm : decide ((m : Int) < 125) = false := by simp; omega
      clear hm
      obtain ⟨w1, rfl⟩ : ∃ w1 : World, w1 = wr := ⟨_, rfl⟩
      go_wp2_with fail
      go_loopw [72] (fun v wr => ∃ k : Nat, k ≤ 8 ∧ v = .int .i64 k ∧ Blk wr w1.heap.size 3 ends8 ∧ Below w.heap.size w wr) (fun v _ => 8 - (intOf v).toNat)
      case atStart => exact ⟨0, by omega, rfl, Blk.new _ _ _, hbr.alloc hbr.size _⟩
      case round =>
        clear hbr hlt
        obtain ⟨k, hk, rfl, hG, hbk⟩ := hrel
        by_cases hk8 : k < 8
        · obtain ⟨a, hca, ha0, ha1⟩ := ends_cell hG k hk8
          have hdk : decide ((k : Int) < 8) = true := by simp; omega
          go_wp2_with fail
          go_loopw [78] (fun v wr => ∃ n : Nat, n ≤ 8 ∧ v = .int .i64 n ∧ Blk wr w1.heap.size 3 ends8 ∧ Below w.heap.size w wr) (fun v _ => 8 - (intOf v).toNat)
          case atStart => exact ⟨0, by omega, rfl, hG, hbk⟩
          case round =>
            clear hG hbk hca
            obtain ⟨n, hn, rfl, hG, hbn⟩ := hrel
            by_cases hn8 : n < 8
            · obtain ⟨b, hcb, hb0, hb1⟩ := ends_cell hG n hn8
              go_wp2_with fail
              refine (tells_any [a, 1000] _ 2 b 5 _ (two_sl _ _ _) (by simp) (by omega) (by omega)).mono ?_
              rintro e x1 ⟨rfl, hx⟩
              have hy : Below wr.heap.size wr x1 := bl ((Below.refl _ _).alloc (Nat.le_refl _) _) hx
              have G1 := blk_keep hG hy
              have X1 := hbn.trans (hy.mono hbn.size)
              clear hG hbn hx hy hcb
              go_wp2_with fail
              refine (tells_any [1000] _ 1 a b _ (one_sl _ _) (by simp) (by omega) (by omega)).mono ?_
              rintro e x2 ⟨rfl, hx⟩
              have hy : Below x1.heap.size x1 x2 := bl ((Below.refl _ _).alloc (Nat.le_refl _) _) hx
              have G2 := blk_keep G1 hy
              have X2 := X1.trans (hy.mono X1.size)
              clear G1 X1 hx hy
              go_wp2_with fail
              refine (tells_any [] none 0 a b _ (sl_nil _ _) (by simp) (by omega) (by omega)).mono ?_
              rintro e x3 ⟨rfl, hy⟩
              have G3 := blk_keep G2 hy
              have X3 := X2.trans (hy.mono X2.size)
              clear G2 X2 hy
              go_wp2_with fail
              refine (tells_any [7, a] _ 2 0 b _ (two_sl _ _ _) (by simp) (by omega) (by omega)).mono ?_
              rintro e x4 ⟨rfl, hx⟩
              have hy : Below x3.heap.size x3 x4 := bl ((Below.refl _ _).alloc (Nat.le_refl _) _) hx
              have G4 := blk_keep G3 hy
              have X4 := X3.trans (hy.mono X3.size)
              clear G3 X3 hx hy
              go_wp2_with fail
              go_roundw
              case rel => first | exact ⟨n + 1, by omega, by go_num, G4, X4⟩ | ((repeat apply Exists.intro); exact ⟨⟨n + 1, by omega, by go_num, G4, X4⟩, rfl⟩)
              case measure => simp [intOf]; omega
            · go_wp2_with fail
              go_roundw
              case rel => first | exact ⟨k + 1, by omega, by go_num, hG, hbn⟩ | ((repeat apply Exists.intro); exact ⟨⟨k + 1, by omega, by go_num, hG, hbn⟩, rfl⟩)
              case measure => simp [intOf]; omega
        · clear hk hG
          have hB0 : Below w.heap.size w (wr.alloc (.cells #[.int .i64 1] 3)) := hbk.alloc hbk.size _
          have hc0 : ∀ j u, [Value.int .i64 1][j]? = some u → (wr.alloc (.cells #[.int .i64 1] 3)).cell? ((⟨wr.heap.size, 0, none⟩ : Addr).add j) = some u := by
            intro j u hu
            have hj : j = 0 := by have := (List.getElem?_eq_some_iff.1 hu).1; simpa using this
            subst hj
            have e : (⟨wr.heap.size, 0, none⟩ : Addr).add 0 = ⟨wr.heap.size, 0, none⟩ := rfl
            rw [e, (Blk.new wr 3 #[.int .i64 1]).cell 0, ← hu]
            rfl
          go_wp2_with fail
          refine (repeat_any [.int .i64 1] ⟨wr.heap.size, 0, none⟩ 1 13 _ (by simp) hc0 rfl (by intro u hu; simp at hu; subst hu; rfl) (by omega) (by omega)).mono ?_
          rintro e x1 ⟨g1, rfl, hlt1, ones1, hb1⟩
          replace ones1 : Ones x1 g1 := ones1
          have X1 := hB0.trans (hb1.mono hB0.size)
          clear hc0 hB0 hb1 hbk
          have hts : Blk (x1.alloc (.cells #[.int .i64 0, .int .i64 0, .int .i64 0, .bool false, .bool false] 50)) x1.heap.size 50 #[.int .i64 0, .int .i64 0, .int .i64 0, .bool false, .bool false] := Blk.new _ _ _
          have hps : Blk ((x1.alloc (.cells #[.int .i64 0, .int .i64 0, .int .i64 0, .bool false, .bool false] 50)).alloc (.cells #[.pointer none, .pointer (some ⟨x1.heap.size, 0, none⟩)] 32)) (x1.heap.size + 1) 32 #[.pointer none, .pointer (some ⟨x1.heap.size, 0, none⟩)] := by simpa using Blk.new (x1.alloc (.cells #[.int .i64 0, .int .i64 0, .int .i64 0, .bool false, .bool false] 50)) 32 #[.pointer none, .pointer (some ⟨x1.heap.size, 0, none⟩)]
          have hbb : Below x1.heap.size x1 ((x1.alloc (.cells #[.int .i64 0, .int .i64 0, .int .i64 0, .bool false, .bool false] 50)).alloc (.cells #[.pointer none, .pointer (some ⟨x1.heap.size, 0, none⟩)] 32)) := ((Below.refl _ _).alloc (Nat.le_refl _) _).alloc (by simp) _
          go_wp2_with fail
          go_loopw [115] (fun v wr => ∃ k : Nat, k ≤ 2 ∧ v = .int .i64 k ∧ Blk wr x1.heap.size 50 #[.int .i64 0, .int .i64 0, .int .i64 0, .bool false, .bool false] ∧ Blk wr (x1.heap.size + 1) 32 #[.pointer none, .pointer (some ⟨x1.heap.size, 0, none⟩)] ∧ Ones wr g1 ∧ Below w.heap.size w wr) (fun v _ => 2 - (intOf v).toNat)
          case atStart => exact ⟨0, by omega, rfl, hts.alloc _, hps, ones_keep ones1 hbb, X1.trans (hbb.mono X1.size)⟩
          case round =>
            clear hts hps ones1 hbb X1
            obtain ⟨k, hk, rfl, hT, hP, ones1, X1⟩ := hrel
            by_cases hk2 : k < 2
            · obtain ⟨p, hcp, hno⟩ : ∃ p, wr.cell? ⟨x1.heap.size + 1, k, none⟩ = some p ∧ NoT wr p ∧ (p = .pointer none ∨ p = .pointer (some ⟨x1.heap.size, 0, none⟩)) := by
                rcases (by omega : k = 0 ∨ k = 1) with rfl | rfl
                · exact ⟨_, hP.cell 0, noT_nil _, .inl rfl⟩
                · exact ⟨_, hP.cell 1, noT_zero _ _ hT, .inr rfl⟩
              obtain ⟨hno, hpp⟩ := hno
              have HN := Lib.hid hno
              have HP := Lib.hid hpp
              clear hno hpp
              go_wp2_with (first | (go_at_call 15; refine (tick_no p _ HN.out).mono ?_; rintro e w' ⟨rfl, rfl⟩) | (go_at_call 16; refine (left_no p _ HN.out).mono ?_; rintro e w' ⟨rfl, rfl⟩) | (go_at_call 17; refine (at_no p _ HN.out).mono ?_; rintro e w' ⟨rfl, rfl⟩) | (go_at_call 18; refine (fired_no p _ HN.out).mono ?_; rintro e w' ⟨rfl, rfl⟩) | (go_at_call 21; refine (enter_no p _ _ HN.out).mono ?_; rintro e w' ⟨rfl, rfl⟩))
              go_roundw
              case rel => first | exact ⟨k + 1, by omega, by go_num, hT, hP, ones1, X1⟩ | ((repeat apply Exists.intro); exact ⟨⟨k + 1, by omega, by go_num, hT, hP, ones1, X1⟩, rfl⟩)
              case measure => simp [intOf]; omega
            · clear hk hT hP
              go_wp2_with fail
              refine (tells_any (List.replicate 13 1) _ 13 0 1 _ (ones_sl ones1) (by simp) (by omega) (by omega)).mono ?_
              rintro e x2 ⟨rfl, hb2⟩
              have ones2 := ones_keep ones1 hb2
              have X2 := X1.trans (hb2.mono X1.size)
              clear ones1 X1 hb2
              go_wp2_with fail
              refine (tells_any (List.replicate 12 1) _ 12 0 1 _ (ones_sl1 ones2) (by simp) (by omega) (by omega)).mono ?_
              rintro e x3 ⟨rfl, hb3⟩
              have ones3 := ones_keep ones2 hb3
              have X3 := X2.trans (hb3.mono X2.size)
              clear ones2 X2 hb3
              go_wp2_with fail
              refine (ticks_any (List.replicate 13 1) [] _ none 13 0 1 _ (ones_sl ones3) (sl_nil _ _) (by simp) (by omega)).mono ?_
              rintro e x4 ⟨rfl, hb4⟩
              have ones4 := ones_keep ones3 hb4
              have X4 := X3.trans (hb4.mono X3.size)
              clear ones3 X3 hb4
              go_wp2_with fail
              refine (ticks_any [2] (List.replicate 13 1) _ _ 1 13 1 _ (one_sl _ _) (ones_sl (Blk.alloc ones4 _)) (by simp) (by omega)).mono ?_
              rintro e x5 ⟨rfl, hb5⟩
              have X5 := X4.trans ((bl ((Below.refl _ _).alloc (Nat.le_refl _) _) hb5 : Below x4.heap.size x4 x5).mono X4.size)
              clear ones4 X4 hb5
              go_wp2_with (go_at_call 10; refine (awake_any _).mono ?_; rintro e x6 ⟨rfl, hb6⟩)
              go_ret
              exact ⟨rfl, X5.trans (hb6.mono X5.size)⟩
end Go.Proofs.Ytkkmipegolaleaa
