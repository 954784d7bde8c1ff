/-
  What slices.Clone and the methods of a Timer do.
-/
import Derived.Test.YtkkmipegolaleaaFns
namespace Go.Proofs.Ytkkmipegolaleaa
open Go.RowKit T

theorem int_info : (Try.prog.info? 3).map (fun i => (i.zero, i.size, i.bytes)) = some (some (.int .i64 0), 1, 8) := by kernel_rfl
theorem one_ints (zs : List Int) : ∀ u ∈ zs.map (Value.int .i64), u.oneCell' = true := by
  intro u hu
  obtain ⟨x, _, rfl⟩ := List.mem_map.1 hu
  rfl

theorem own_empty (w : World) : (w.alloc (.cells #[] 3)).ownsRow w.heap.size 3 1 (.slice (some ⟨w.heap.size, 0, none⟩) 0 0) 0 [] := by
  refine ⟨rfl, .inr ⟨w.heap.size, 0, #[], rfl, Nat.le_refl _, heap_alloc_new w _, ?_⟩⟩
  simp

theorem own_form {w : World} {base : Nat} {e : TypeId} {size : Nat} {v : Value} {n : Nat} {xs : List Value} (h : w.ownsRow base e size v n xs) : ∃ A c, v = .slice A n c := by
  rcases h.2 with ⟨rfl, rfl⟩ | ⟨g, cap, cur, rfl, _⟩
  · exact ⟨_, _, rfl⟩
  · exact ⟨_, _, rfl⟩

set_option maxHeartbeats 400000 in
/-- slices.Clone at []int. -/
theorem clone_any (zs : List Int) (A : Option Addr) (c : Nat) (w : World) (hv : Sl w A zs) (hm : zs.length ≤ 1000) :
    Calls Try.prog 25 #[.slice A zs.length c] w fun e w' => ∃ A' c', e = .returned (.slice A' zs.length c') ∧ w'.ownsRow w.heap.size 3 1 (.slice A' zs.length c') zs.length (zs.map (Value.int .i64)) ∧ Below w.heap.size w w' := by
  have he := fun (w : World) (a : Option Addr) (n c : Nat) => Lib.run_eql_slice_nil (P := Try.prog) w 22 3 a n c 0 0 Try.underlying22
  rcases A with _ | ad
  · have h0 : zs = [] := by
      cases zs with
      | nil => rfl
      | cons a l => obtain ⟨ad, h, _⟩ := hv.at_ (k := 0) (by simp); cases h
    subst h0
    go_enter Try.func25, Try.ntmps25
    go_wp2
    go_ret
    exact ⟨none, 0, rfl, World.ownsRow_nil _ _ _ _, Below.refl _ _⟩
  · obtain ⟨i0, hi0, hz0, hz1, hz2⟩ := info_parts int_info
    go_enter Try.func25, Try.ntmps25
    go_wp2_with (at_builtin; refine wpList_append_any _ rfl (.tmp 5) (.tmp 6) _ rfl w.heap.size 3 i0 _ 1 8 Try.underlying22 hi0 hz0 hz1 hz2 rfl (by omega) (.slice (some ⟨w.heap.size, 0, none⟩) 0 0) 0 [] rfl (own_empty w) (w.heap.size) (some ad) zs.length c (zs.map (Value.int .i64)) rfl (hv.2.alloc (Nat.le_refl _) _) (one_ints zs) (by simp only [maxLen]; omega) (by omega) (by simp) ?_; intro v1 w1 hown1 hg1 hat1)
    go_ret
    have hB : Below w.heap.size w w1 := ((Below.refl _ _).alloc (Nat.le_refl _) _).grown hg1 (by simp) (by simp [Value.ownBlock])
    simp only [Nat.zero_add, List.nil_append] at hown1
    obtain ⟨A', c', e⟩ := own_form hown1
    subst e
    exact ⟨A', c', rfl, hown1, hB⟩

theorem own_sl {w : World} {base : Nat} {A : Option Addr} {c : Nat} {zs : List Int} (h : w.ownsRow base 3 1 (.slice A zs.length c) zs.length (zs.map (Value.int .i64))) (hm : zs.length ≤ 1000) : Sl w A zs := ⟨by omega, Reads.of_own h⟩

/-- A timer in memory. -/
def Tm (w : World) (t : Nat) (i k a : Int) (f : Bool) : Prop := Blk w t 50 #[.int .i64 i, .int .i64 k, .int .i64 a, .bool f, .bool true]

set_option maxHeartbeats 400000 in
theorem new_bad (zs : List Int) (A : Option Addr) (c : Nat) (w : World) (hv : Sl w A zs) (hc : chk zs ≠ 0) :
    Calls Try.prog 14 #[.slice A zs.length c] w fun e w' => e = .returned (.tuple #[.pointer none, .int .i64 (chk zs)]) ∧ Below w.heap.size w w' := by
  have hb : (chk zs != 0) = true := by simpa using hc
  go_enter Try.func14, Try.ntmps14
  go_wp2_with (go_at_call 29; refine (check_any zs A c _ hv).mono ?_; rintro e w' ⟨rfl, rfl⟩)
  go_ret2
  exact ⟨rfl, by go_grown⟩

set_option maxHeartbeats 400000 in
theorem new_ok (zs : List Int) (A : Option Addr) (c : Nat) (w : World) (hv : Sl w A zs) (hc : chk zs = 0) :
    Calls Try.prog 14 #[.slice A zs.length c] w fun e w' => ∃ t, e = .returned (.tuple #[.pointer (some ⟨t, 0, none⟩), .int .i64 0]) ∧ w.heap.size ≤ t ∧ Tm w' t (ix zs) (tk zs) 0 false ∧ Below w.heap.size w w' := by
  have hl := (chk_ok hc).1
  have HC := Lib.hid hc
  have HV := Lib.hid hv
  clear hc hv
  go_enter Try.func14, Try.ntmps14
  go_wp2_with (first | (go_at_call 29; refine (check_ok A c _ HV.out HC.out).mono ?_; rintro e w' ⟨rfl, rfl⟩) | (go_at_call 25; refine (clone_any zs A c _ HV.out (by omega)).mono ?_; rintro e w1 ⟨A', c', rfl, hown, hb1⟩; have hz1 := hb1.size) | (go_at_call 32; refine (of_any zs A' c' _ (own_sl hown (by omega))).mono ?_; rintro e w2 ⟨rfl, hb2⟩; have hz2 := hb2.size))
  go_ret2
  exact ⟨w2.heap.size, rfl, by omega, Blk.new _ _ _, (bl hb1 hb2).alloc (by omega) _⟩

theorem is_any (t : Nat) (i k a : Int) (f : Bool) (w : World) (ht : Tm w t i k a f) :
    Calls Try.prog 34 #[.pointer (some ⟨t, 0, none⟩)] w fun e w' => e = .returned (.bool true) ∧ w = w' := by
  have h3 := ht.cell 4
  go_enter Try.func34, Try.ntmps34
  go_wp2
  go_ret
  exact ⟨rfl, rfl⟩

theorem at_any (t : Nat) (i k a : Int) (f : Bool) (w : World) (ht : Tm w t i k a f) :
    Calls Try.prog 17 #[.pointer (some ⟨t, 0, none⟩)] w fun e w' => e = .returned (.int .i64 a) ∧ w = w' := by
  have h3 := ht.cell 2
  go_enter Try.func17, Try.ntmps17
  go_wp2_with (go_at_call 34; refine (is_any t i k a f _ ht).mono ?_; rintro e w' ⟨rfl, rfl⟩)
  go_ret
  exact ⟨rfl, rfl⟩

theorem fired_any (t : Nat) (i k a : Int) (f : Bool) (w : World) (ht : Tm w t i k a f) :
    Calls Try.prog 18 #[.pointer (some ⟨t, 0, none⟩)] w fun e w' => e = .returned (.bool f) ∧ w = w' := by
  have h3 := ht.cell 3
  go_enter Try.func18, Try.ntmps18
  go_wp2_with (go_at_call 34; refine (is_any t i k a f _ ht).mono ?_; rintro e w' ⟨rfl, rfl⟩)
  go_ret
  exact ⟨rfl, rfl⟩

set_option maxHeartbeats 400000 in
/-- Left at a timer that runs. -/
theorem left_runs (t : Nat) (i k a : Int) (w : World) (ht : Tm w t i k a false) (hi : 0 ≤ i) (h0 : 0 ≤ a) (h1 : a ≤ 100000) (h2 : 0 ≤ k) (h3 : k ≤ 100000) :
    Calls Try.prog 16 #[.pointer (some ⟨t, 0, none⟩)] w fun e w' => e = .returned (.tuple #[.int .i64 (k - a), .bool true]) ∧ Below w.heap.size w w' := by
  have hlt := ht.lt
  have c0 := ht.cell 0
  have c1 := ht.cell 1
  have c2 := ht.cell 2
  have c3 := ht.cell 3
  have hd : decide (0 ≤ i) = true := by simpa using hi
  go_enter Try.func16, Try.ntmps16
  go_wp2_with (first | (go_at_call 34; refine (is_any t i k a _ _ ht).mono ?_; rintro e w' ⟨rfl, rfl⟩) | (go_at_call 33; refine (there_any _ _ _).mono ?_; rintro e w2 ⟨rfl, hb2⟩; have hz2 := hb2.size; obtain ⟨hc2, hf2⟩ := bcell hb2))
  go_quiet (fail)
  go_wp2_with fail
  go_ret2
  exact ⟨rfl, below_drewN hb2 _⟩

set_option maxHeartbeats 400000 in
/-- Left at a timer that does not run. -/
theorem left_not (t : Nat) (i k a : Int) (f : Bool) (w : World) (ht : Tm w t i k a f) (hi : i < 0 ∨ f = true) :
    Calls Try.prog 16 #[.pointer (some ⟨t, 0, none⟩)] w fun e w' => e = .returned (.tuple #[.int .i64 0, .bool false]) ∧ Below w.heap.size w w' := by
  have hlt := ht.lt
  have c0 := ht.cell 0
  have c1 := ht.cell 1
  have c2 := ht.cell 2
  have c3 := ht.cell 3
  by_cases h : i < 0
  · have hd : decide (0 ≤ i) = false := by simpa using h
    go_enter Try.func16, Try.ntmps16
    go_wp2_with (first | (go_at_call 34; refine (is_any t i k a _ _ ht).mono ?_; rintro e w' ⟨rfl, rfl⟩) | (go_at_call 33; refine (there_any _ _ _).mono ?_; rintro e w2 ⟨rfl, hb2⟩; have hz2 := hb2.size; obtain ⟨hc2, hf2⟩ := bcell hb2))
    go_ret2
    exact ⟨rfl, hb2⟩
  · have hd : decide (0 ≤ i) = true := by simpa using h
    obtain rfl : f = true := by rcases hi with hi | hi; exact absurd hi h; exact hi
    go_enter Try.func16, Try.ntmps16
    go_wp2_with (first | (go_at_call 34; refine (is_any t i k a _ _ ht).mono ?_; rintro e w' ⟨rfl, rfl⟩) | (go_at_call 33; refine (there_any _ _ _).mono ?_; rintro e w2 ⟨rfl, hb2⟩; have hz2 := hb2.size; obtain ⟨hc2, hf2⟩ := bcell hb2))
    go_ret2
    exact ⟨rfl, hb2⟩
end Go.Proofs.Ytkkmipegolaleaa
