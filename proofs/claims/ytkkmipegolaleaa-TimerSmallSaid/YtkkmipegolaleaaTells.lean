/-
  tells of the timer's law: what package timer says of a list and what the reference says agree.
-/
import Derived.Test.YtkkmipegolaleaaAwake
import Derived.Test.YtkkmipegolaleaaRef
namespace Go.Proofs.Ytkkmipegolaleaa
open Go.RowKit T

/-- What the row tells of a slice that came in. -/
theorem sl_of {w : World} {a : Option Addr} {len cap : Nat} {zs : List Int} (h : (a = none ∧ len = 0 ∧ cap = 0 ∧ zs = []) ∨
    ∃ x, a = some x ∧ len ≤ cap ∧ cap ≤ maxLen ∧ zs.length = cap ∧ (∀ i, i < zs.length → w.cell? (x.add i) = some (.int .i64 (zs.getD i 0))) ∧ ∀ n ∈ zs, (Lit.int .i64 n).wf = true) :
    ∃ ys : List Int, ys.length = len ∧ Sl w a ys := by
  rcases h with ⟨rfl, rfl, rfl, rfl⟩ | ⟨x, rfl, hl, hm, hz, hc, _⟩
  · exact ⟨[], rfl, by simp, by simpa using Reads.none_⟩
  · refine ⟨zs.take len, by rw [List.length_take]; omega, ?_, ?_, fun h0 => ⟨x, rfl, ?_, fun j u hu => ?_⟩⟩
    · rw [List.length_take]; unfold maxLen at hm; omega
    · simp
    · have := World.block_lt_of_cell? w _ (hc 0 (by rw [List.length_take] at h0; omega))
      simpa [block_of_add] using this
    · rw [List.getElem?_map, List.getElem?_take] at hu
      split at hu
      · rename_i hj
        rw [hc j (by omega), List.getD_eq_getElem?_getD]
        rw [← hu, List.getElem?_eq_getElem (show j < zs.length by omega)]
        rfl
      · simp at hu

def GoIs (zs : List Int) (a n x : Int) (b : Bool) (e3 : Int) : Prop :=
  ∀ (A : Option Addr) (c : Nat) (w : World), Sl w A zs → Calls Try.prog 19 #[.slice A zs.length c, .int .i64 a, .int .i64 n] w fun e w' => e = .returned (.tuple #[.int .i64 x, .bool b, .int .i64 e3]) ∧ Below w.heap.size w w'
def RgoIs (zs : List Int) (a n x : Int) (b : Bool) (e3 : Int) : Prop :=
  ∀ (A : Option Addr) (c : Nat) (w : World), Sl w A zs → Calls Try.prog 27 #[.slice A zs.length c, .int .i64 a, .int .i64 n] w fun e w' => e = .returned (.tuple #[.int .i64 x, .bool b, .int .i64 e3]) ∧ Below w.heap.size w w'
def RoIs (zs : List Int) (n x y e3 : Int) : Prop :=
  ∀ (A : Option Addr) (c : Nat) (w : World), Sl w A zs → Calls Try.prog 20 #[.slice A zs.length c, .int .i64 n] w fun e w' => e = .returned (.tuple #[.int .i64 x, .int .i64 y, .int .i64 e3]) ∧ Below w.heap.size w w'
def RroIs (zs : List Int) (n x y e3 : Int) : Prop :=
  ∀ (A : Option Addr) (c : Nat) (w : World), Sl w A zs → Calls Try.prog 28 #[.slice A zs.length c, .int .i64 n] w fun e w' => e = .returned (.tuple #[.int .i64 x, .int .i64 y, .int .i64 e3]) ∧ Below w.heap.size w w'
def CloneIs (zs : List Int) : Prop := ∀ (A : Option Addr) (c : Nat) (w : World), Sl w A zs →
    Calls Try.prog 25 #[.slice A zs.length c] w fun e w' => ∃ A' c', e = .returned (.slice A' zs.length c') ∧ w'.ownsRow w.heap.size 3 1 (.slice A' zs.length c') zs.length (zs.map (Value.int .i64)) ∧ Below w.heap.size w w'

set_option maxHeartbeats 1000000 in
set_option maxRecDepth 100000 in
theorem tells_some (zs : List Int) (A : Option Addr) (c : Nat) (a n x : Int) (b : Bool) (e3 y z e4 : Int) (i : Nat) (t : Int) (w : World) (hv : Sl w A zs) (hl : zs.length ≤ 100) (hc : chk zs = 0) (hil : i < zs.length) (hx : ix zs = i) (ht : tk zs = t) (ht' : zs.getD i 0 = t)
    (hgo : GoIs zs a n x b e3) (hrgo : RgoIs zs a (min n 2000) x b e3) (hro : RoIs zs n y z e4) (hrro : RroIs zs n y z e4) :
    Calls Try.prog 9 #[.slice A zs.length c, .int .i64 a, .int .i64 n] w fun e w' => e = .returned (.bool true) ∧ Below w.heap.size w w' := by
  have HC := Lib.hid hc
  have HX := Lib.hid hx
  have HT := Lib.hid ht
  have HT' := Lib.hid ht'
  have hlen : ((zs.length : Int) == 0) = false := beq_eq_false_iff_ne.2 (by omega)
  have hmax : max (i : Int) 0 = i := by omega
  have hi0 : decide (0 ≤ (i : Int)) = true := by simp
  have hii : (i : Int) < (zs.length : Int) := by omega
  have hrf : ∀ (A : Option Addr) (c : Nat) (w : World), Sl w A zs → Calls Try.prog 31 #[.slice A zs.length c] w fun e w' => e = .returned (.int .i64 i) ∧ w = w' := fun A c w hv => by
    have := rfirst_any zs A c w hv hc
    rw [hx] at this
    exact this
  have HRF := Lib.hid hrf
  clear hc hx ht ht' hrf
  go_enter Try.func9, Try.ntmps9
  go_wp2_with fail
  refine (clone_any zs A c w hv (by omega)).mono ?_
  rintro e w1 ⟨A', c', rfl, hown, hb1⟩
  have ho1 := own_sl hown (by omega)
  have hv1 := hv.below hb1
  have hB1 := hb1
  clear hv hb1 hown
  go_wp2_with fail
  refine (first_some zs A' c' _ ho1 HC.out i t HX.out HT.out (by omega)).mono ?_
  rintro e w2 ⟨rfl, hb2⟩
  have ho2 := ho1.below hb2
  have hv2 := hv1.below hb2
  have hB2 := hB1.trans (hb2.mono hB1.size)
  clear ho1 hv1 hB1 hb2
  go_wp2_with fail
  refine (only_some zs A' c' _ ho2 HC.out i t HX.out HT.out (by omega)).mono ?_
  rintro e w3 ⟨b3, rfl, hlt3, blk3, hb3⟩
  have ho3 := ho2.below hb3
  have hv3 := hv2.below hb3
  have hB3 := hB2.trans (hb3.mono hB2.size)
  have so3 : Sl w3 (some ⟨b3, 0, none⟩) [t] := sl_blk [t] blk3 (by simp)
  clear ho2 hv2 hB2 hb3
  go_wp2_with fail
  refine (hgo A' c' _ ho3).mono ?_
  rintro e w4 ⟨rfl, hb4⟩
  have ho4 := ho3.below hb4
  have hv4 := hv3.below hb4
  have so4 := so3.below hb4
  have hB4 := hB3.trans (hb4.mono hB3.size)
  clear ho3 hv3 hB3 hb4 so3
  go_wp2_with fail
  refine (hro A' c' _ ho4).mono ?_
  rintro e w5 ⟨rfl, hb5⟩
  have ho5 := ho4.below hb5
  have hv5 := hv4.below hb5
  have so5 := so4.below hb5
  have hB5 := hB4.trans (hb5.mono hB4.size)
  clear ho4 hv4 hB4 hb5 so4
  go_wp2_with fail
  refine (rcheck_ok A c _ hv5 HC.out).mono ?_
  rintro e w' ⟨rfl, rfl⟩
  go_wp2_with fail
  refine (hrgo A c _ hv5).mono ?_
  rintro e w6 ⟨rfl, hb6⟩
  have ho6 := ho5.below hb6
  have hv6 := hv5.below hb6
  have so6 := so5.below hb6
  have hB6 := hB5.trans (hb6.mono hB5.size)
  clear ho5 hv5 hB5 hb6 so5
  go_wp2_with fail
  refine (hrro A c _ hv6).mono ?_
  rintro e w7 ⟨rfl, hb7⟩
  have ho7 := ho6.below hb7
  have hv7 := hv6.below hb7
  have so7 := so6.below hb7
  have hB7 := hB6.trans (hb7.mono hB6.size)
  clear ho6 hv6 hB6 hb7 so6
  go_wp2_with fail
  refine (check_ok A' c' _ ho7 HC.out).mono ?_
  rintro e w' ⟨rfl, rfl⟩
  go_wp2_with fail
  refine (equal_any zs zs A' A _ _ c' c _ rfl rfl ho7 hv7).mono ?_
  rintro e w8 ⟨rfl, hb8⟩
  rw [show decide (zs = zs) = true by simp]
  have hv8 := hv7.below hb8
  have so8 := so7.below hb8
  have hB8 := hB7.trans (hb8.mono hB7.size)
  clear ho7 hv7 hB7 hb8 so7
  go_wp2_with fail
  refine (HRF.out A c _ hv8).mono ?_
  rintro e w' ⟨rfl, rfl⟩
  obtain ⟨ad, rfl, had, hce⟩ := hv8.at_ hil
  rw [HT'.out] at hce
  go_wp2_with fail
  have son : Sl (w8.alloc (.cells #[.int .i64 t] 3)) (some ⟨w8.heap.size, 0, none⟩) [t] := sl_blk [t] (Blk.new w8 3 _) (by simp)
  refine (equal_any [t] [t] _ _ 1 1 1 1 _ rfl rfl (so8.alloc _) son).mono ?_
  rintro e w9 ⟨rfl, hb9⟩
  rw [show decide ([t] = [t]) = true by simp]
  go_wp2_with fail
  go_ret
  exact ⟨rfl, (hB8.alloc hB8.size _).trans (hb9.mono (by have := hB8.size; simp; omega))⟩

set_option maxHeartbeats 1000000 in
set_option maxRecDepth 100000 in
theorem tells_bad (zs : List Int) (A : Option Addr) (c : Nat) (a n : Int) (w : World) (hv : Sl w A zs) (hl : zs.length ≤ 100) (hc : chk zs ≠ 0) :
    Calls Try.prog 9 #[.slice A zs.length c, .int .i64 a, .int .i64 n] w fun e w' => e = .returned (.bool true) ∧ Below w.heap.size w w' := by
  have hb0 : (chk zs == 0) = false := beq_eq_false_iff_ne.2 hc
  have hb1 : (chk zs != 0) = true := by simpa using hc
  go_enter Try.func9, Try.ntmps9
  go_wp2_with fail
  refine (clone_any zs A c w hv (by omega)).mono ?_
  rintro e w1 ⟨A', c', rfl, hown, hb1⟩
  have ho1 := own_sl hown (by omega)
  have hv1 := hv.below hb1
  have hB1 := hb1
  clear hv hb1 hown
  go_wp2_with fail
  refine (first_bad zs A' c' _ ho1 hc).mono ?_
  rintro e w2 ⟨rfl, hb2⟩
  have ho2 := ho1.below hb2
  have hv2 := hv1.below hb2
  have hB2 := hB1.trans (hb2.mono hB1.size)
  clear ho1 hv1 hB1 hb2
  go_wp2_with fail
  refine (only_bad zs A' c' _ ho2 hc).mono ?_
  rintro e w3 ⟨rfl, hb3⟩
  have ho3 := ho2.below hb3
  have hv3 := hv2.below hb3
  have hB3 := hB2.trans (hb3.mono hB2.size)
  clear ho2 hv2 hB2 hb3
  go_wp2_with fail
  refine (go_bad zs A' c' a n _ ho3 hc).mono ?_
  rintro e w4 ⟨rfl, hb4⟩
  have ho4 := ho3.below hb4
  have hv4 := hv3.below hb4
  have hB4 := hB3.trans (hb4.mono hB3.size)
  clear ho3 hv3 hB3 hb4
  go_wp2_with fail
  refine (rounds_bad zs A' c' n _ ho4 hc).mono ?_
  rintro e w5 ⟨rfl, hb5⟩
  have ho5 := ho4.below hb5
  have hv5 := hv4.below hb5
  have hB5 := hB4.trans (hb5.mono hB4.size)
  clear ho4 hv4 hB4 hb5
  go_wp2_with fail
  refine (rcheck_any zs A c _ hv5).mono ?_
  rintro e w' ⟨rfl, rfl⟩
  go_wp2_with fail
  refine (rgo_bad zs A c a _ _ hv5 hc).mono ?_
  rintro e w' ⟨rfl, rfl⟩
  go_wp2_with fail
  refine (rrounds_bad zs A c n _ hv5 hc).mono ?_
  rintro e w7 ⟨rfl, hb7⟩
  have ho7 := ho5.below hb7
  have hv7 := hv5.below hb7
  have hB7 := hB5.trans (hb7.mono hB5.size)
  clear ho5 hv5 hB5 hb7
  go_wp2_with fail
  refine (check_any zs A' c' _ ho7).mono ?_
  rintro e w' ⟨rfl, rfl⟩
  go_wp2_with fail
  refine (equal_any zs zs A' A _ _ c' c _ rfl rfl ho7 hv7).mono ?_
  rintro e w8 ⟨rfl, hb8⟩
  rw [show decide (zs = zs) = true by simp]
  go_wp2_with fail
  go_ret
  exact ⟨rfl, hB7.trans (hb8.mono hB7.size)⟩

theorem rfirst_nil (A : Option Addr) (c : Nat) (w : World) (hv : Sl w A []) : Calls Try.prog 31 #[.slice A 0 c] w fun e w' => e = .returned (.int .i64 (-1)) ∧ w = w' := by
  have := rfirst_any [] A c w hv rfl
  rw [show ix [] = -1 from rfl] at this
  exact this

set_option maxHeartbeats 2000000 in
set_option maxRecDepth 100000 in
theorem tells_nil (A : Option Addr) (c : Nat) (a n x x' : Int) (b : Bool) (e3 y z e4 : Int) (w : World) (hv : Sl w A [])
    (hgo : GoIs [] a n x b e3) (hrgo : RgoIs [] a (min n 2000) x' b e3) (hro : RoIs [] n y z e4) (hrro : RroIs [] n y z e4) (hx : (e3 = 0 ∧ x = n) ∨ (e3 ≠ 0 ∧ x = x')) :
    Calls Try.prog 9 #[.slice A 0 c, .int .i64 a, .int .i64 n] w fun e w' => e = .returned (.bool true) ∧ Below w.heap.size w w' := by
  have hmax : max (-1 : Int) 0 = 0 := by omega
  rcases hx with ⟨rfl, rfl⟩ | ⟨he, rfl⟩
  all_goals
    try (have hb0 : (e3 == 0) = false := beq_eq_false_iff_ne.2 he)
    go_enter Try.func9, Try.ntmps9
    go_wp2_with fail
    refine (clone_any [] A c w hv (by simp)).mono ?_
    rintro e w1 ⟨A', c', rfl, hown, hb1⟩
    have ho1 := own_sl hown (by simp)
    have hv1 := hv.below hb1
    have hB1 := hb1
    clear hv hb1 hown
    go_wp2_with fail
    refine (first_nil A' c' _ ho1).mono ?_
    rintro e w2 ⟨rfl, hb2⟩
    have ho2 := ho1.below hb2
    have hv2 := hv1.below hb2
    have hB2 := hB1.trans (hb2.mono hB1.size)
    clear ho1 hv1 hB1 hb2
    go_wp2_with fail
    refine (only_nil A' c' _ ho2).mono ?_
    rintro e w3 ⟨rfl, hb3⟩
    have ho3 := ho2.below hb3
    have hv3 := hv2.below hb3
    have hB3 := hB2.trans (hb3.mono hB2.size)
    clear ho2 hv2 hB2 hb3
    go_wp2_with fail
    refine (hgo A' c' _ ho3).mono ?_
    rintro e w4 ⟨rfl, hb4⟩
    have ho4 := ho3.below hb4
    have hv4 := hv3.below hb4
    have hB4 := hB3.trans (hb4.mono hB3.size)
    clear ho3 hv3 hB3 hb4
    go_wp2_with fail
    refine (hro A' c' _ ho4).mono ?_
    rintro e w5 ⟨rfl, hb5⟩
    have ho5 := ho4.below hb5
    have hv5 := hv4.below hb5
    have hB5 := hB4.trans (hb5.mono hB4.size)
    clear ho4 hv4 hB4 hb5
    go_wp2_with fail
    refine (rcheck_ok A c _ hv5 rfl).mono ?_
    rintro e w' ⟨rfl, rfl⟩
    go_wp2_with fail
    refine (hrgo A c _ hv5).mono ?_
    rintro e w6 ⟨rfl, hb6⟩
    have ho6 := ho5.below hb6
    have hv6 := hv5.below hb6
    have hB6 := hB5.trans (hb6.mono hB5.size)
    clear ho5 hv5 hB5 hb6
    go_wp2_with fail
    refine (hrro A c _ hv6).mono ?_
    rintro e w7 ⟨rfl, hb7⟩
    have ho7 := ho6.below hb7
    have hv7 := hv6.below hb7
    have hB7 := hB6.trans (hb7.mono hB6.size)
    clear ho6 hv6 hB6 hb7
    go_wp2_with fail
    refine (check_ok A' c' _ ho7 rfl).mono ?_
    rintro e w' ⟨rfl, rfl⟩
    go_wp2_with fail
    refine (equal_any [] [] A' A _ _ c' c _ rfl rfl ho7 hv7).mono ?_
    rintro e w8 ⟨rfl, hb8⟩
    have hv8 := hv7.below hb8
    have hB8 := hB7.trans (hb8.mono hB7.size)
    clear ho7 hv7 hB7 hb8
    go_wp2_with fail
    refine (rfirst_nil A c _ hv8).mono ?_
    rintro e w' ⟨rfl, rfl⟩
    go_wp2_with fail
    go_ret
    exact ⟨rfl, hB8⟩

theorem rgo_int (zs : List Int) (a n : Int) (hc : chk zs = 0) (i : Nat) (t : Int) (hx : ix zs = i) (hil : i < zs.length) (ht : zs.getD i 0 = t)
    (h1 : 0 ≤ a) (h2 : a < 1000) (h4 : t ≤ 1000) (h0 : 0 ≤ n) (hn : n ≤ 9223372036854775807) :
    RgoIs zs a n (if t ≤ a then 0 else min n (t - a)) (if t ≤ a then false else decide (t - a ≤ n)) (if t ≤ a then 341 else 0) := by
  intro A c w hv
  obtain ⟨m, rfl⟩ := Int.eq_ofNat_of_zero_le h0
  exact (rgo_some zs A c a m w hv hc i t hx hil ht h1 h2 h4 (by omega)).mono fun e w' ⟨he, hw⟩ => ⟨he, hw ▸ Below.refl _ _⟩

/-- tells: whatever the list and the two numbers. -/
theorem tells_any (zs : List Int) (A : Option Addr) (c : Nat) (a n : Int) (w : World) (hv : Sl w A zs) (hl : zs.length ≤ 100) (hn0 : -9223372036854775808 ≤ n) (hn : n ≤ 9223372036854775807) :
    Calls Try.prog 9 #[.slice A zs.length c, .int .i64 a, .int .i64 n] w fun e w' => e = .returned (.bool true) ∧ Below w.heap.size w w' := by
  by_cases hc : chk zs ≠ 0
  · exact tells_bad zs A c a n w hv hl hc
  replace hc : chk zs = 0 := by omega
  by_cases h0 : zs = []
  · subst h0
    by_cases hn1 : n < 0
    · exact tells_nil A c a n 0 0 false 2 0 0 2 w hv (fun A c w hv => go_arg [] A c a n w hv rfl _ _ rfl rfl (.inl hn1))
        (fun A c w hv => (rgo_arg [] A c a _ w hv rfl (.inl (by omega))).mono fun e w' ⟨he, hw⟩ => ⟨he, hw ▸ Below.refl _ _⟩)
        (fun A c w hv => rounds_arg [] A c n w hv rfl _ _ rfl rfl hn1) (fun A c w hv => rrounds_arg [] A c n w hv rfl hn1) (.inr ⟨by omega, rfl⟩)
    · by_cases ha : a < 0 ∨ 1000 ≤ a
      · exact tells_nil A c a n 0 0 false 2 0 n 0 w hv (fun A c w hv => go_arg [] A c a n w hv rfl _ _ rfl rfl (.inr ha))
          (fun A c w hv => (rgo_arg [] A c a _ w hv rfl (.inr ha)).mono fun e w' ⟨he, hw⟩ => ⟨he, hw ▸ Below.refl _ _⟩)
          (fun A c w hv => rounds_nil A c n w hv (by omega)) (fun A c w hv => rrounds_nil A c n w hv (by omega)) (.inr ⟨by omega, rfl⟩)
      · exact tells_nil A c a n n (min n 2000) false 0 0 n 0 w hv (fun A c w hv => go_nil A c a n w hv (by omega) (by omega) (by omega))
          (fun A c w hv => (rgo_nil A c a _ w hv (by omega) (by omega) (by omega)).mono fun e w' ⟨he, hw⟩ => ⟨he, hw ▸ Below.refl _ _⟩)
          (fun A c w hv => rounds_nil A c n w hv (by omega)) (fun A c w hv => rrounds_nil A c n w hv (by omega)) (.inl ⟨rfl, rfl⟩)
  · have hpos : 0 < zs.length := List.length_pos_iff.2 h0
    have hil := am_lt zs zs.length hpos
    have hx := ix_nonneg h0
    have ht := tk_of h0
    have htr := tk_range h0 hc
    rw [ht] at htr
    have hrn : 0 ≤ n → RoIs zs n (n / zs.getD (am zs zs.length) 0) (n % zs.getD (am zs zs.length) 0) 0 := fun h A c w hv => rounds_some zs A c n w hv hc _ _ hx ht (by omega) h hn htr.1 htr.2
    have hrr : 0 ≤ n → RroIs zs n (n / zs.getD (am zs zs.length) 0) (n % zs.getD (am zs zs.length) 0) 0 := fun h A c w hv => rrounds_some zs A c n w hv hc _ _ hx hil rfl h hn htr.1 htr.2
    generalize hi : am zs zs.length = i at *
    generalize hg : zs.getD i 0 = t at *
    by_cases hn1 : n < 0
    · exact tells_some zs A c a n 0 false 2 0 0 2 i t w hv hl hc hil hx ht hg (fun A c w hv => go_arg zs A c a n w hv hc _ _ hx ht (.inl hn1))
        (fun A c w hv => (rgo_arg zs A c a _ w hv hc (.inl (by omega))).mono fun e w' ⟨he, hw⟩ => ⟨he, hw ▸ Below.refl _ _⟩)
        (fun A c w hv => rounds_arg zs A c n w hv hc _ _ hx ht hn1) (fun A c w hv => rrounds_arg zs A c n w hv hc hn1)
    · by_cases ha : a < 0 ∨ 1000 ≤ a
      · exact tells_some zs A c a n 0 false 2 _ _ 0 i t w hv hl hc hil hx ht hg (fun A c w hv => go_arg zs A c a n w hv hc _ _ hx ht (.inr ha))
          (fun A c w hv => (rgo_arg zs A c a _ w hv hc (.inr ha)).mono fun e w' ⟨he, hw⟩ => ⟨he, hw ▸ Below.refl _ _⟩) (hrn (by omega)) (hrr (by omega))
      · have hr := rgo_int zs a (min n 2000) hc i t hx hil hg (by omega) (by omega) htr.2 (by omega) (by omega)
        by_cases hta : t ≤ a
        · rw [if_pos hta, if_pos hta, if_pos hta] at hr
          exact tells_some zs A c a n 0 false 341 _ _ 0 i t w hv hl hc hil hx ht hg (fun A c w hv => go_over zs A c a n w hv hc _ _ hx ht (by omega) (by omega) (by omega) (by omega) hta) hr (hrn (by omega)) (hrr (by omega))
        · rw [if_neg hta, if_neg hta, if_neg hta, show min (min n 2000) (t - a) = min n (t - a) by omega, show decide (t - a ≤ min n 2000) = decide (t - a ≤ n) by congr 1; exact propext ⟨fun h => by omega, fun h => by omega⟩] at hr
          exact tells_some zs A c a n _ _ 0 _ _ 0 i t w hv hl hc hil hx ht hg (fun A c w hv => go_some zs A c a n w hv hc _ _ hx ht (by omega) (by omega) (by omega) (by omega) (by omega) htr.2) hr (hrn (by omega)) (hrr (by omega))
end Go.Proofs.Ytkkmipegolaleaa
