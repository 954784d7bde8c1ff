/-
  The reference of quote: Byte, Words, Of.
-/
import Derived.Test.YtdgihlelopfdeaaRefA
import Derived.Deep.WholeRow
namespace Go.Proofs.Ytdgihlelopfdeaa
open Go.RowKit Q

theorem info60 : (Try.prog.info? 60).map (·.size) = some 256 := by kernel_rfl
theorem under60 : Try.prog.underlying 60 = some (.array 256 3) := by kernel_rfl

theorem load60 {W : World} {b : Nat} {S : Array Value} (hB : Blk W b 60 S) (hs : S.size = 256) : (loadVar 60 ⟨b, 0, none⟩).run Try.prog W = .ok (.agg S) W :=
  run_loadVar_row W b 60 60 S (0, 0) _ hB under60 rfl (by rw [hs]; exact info60)

theorem wp_load60 {o : Oper} {a : Act} {W : World} {K : Act → World → Prop} {Q : Exit → Act → World → Prop} {b : Nat} {S : Array Value} (x : Operand) (hB : Blk W b 60 S) (hs : S.size = 256) (ho : o.op = .load 60 x) (hx : a.eval x = .pointer (some ⟨b, 0, none⟩))
    (h : K (a.put o.dst (.agg S)) W) : o.wp Try.prog a W K Q :=
  wp_load_row 60 x ho b hx 60 S (0, 0) _ hB under60 rfl (by rw [hs]; exact info60) h

/-- What Byte of the reference answers of a byte from 32 to 126. -/
def qm (m : Bool) (c : Int) : List Int := if c = 92 ∨ m = true then [92, c] else [c]

set_option maxRecDepth 100000 in
set_option maxHeartbeats 4000000 in
theorem rbyte_mk (S : Array Value) (h : Int → Bool) (c : Int) (w : World) (hS : Rs S h) (h0 : 32 ≤ c) (h1 : c ≤ 126) :
    Calls Try.prog 30 #[.int .u8 c, .agg S] w fun e w' => e = .returned (.string (strOfNums (qm (mkr h c) c))) ∧ Below w.heap.size w w' := by
  have HM := Lib.hid (fun w => rmark_any S h c w hS (by omega) (by omega))
  have hs := hS.1
  generalize mkr h c = m at *
  clear hS
  have hK := Blk.new w 60 S
  have e10 : (c == 10) = false := beq_eq_false_iff_ne.2 (by omega)
  have e13 : (c == 13) = false := beq_eq_false_iff_ne.2 (by omega)
  have e9 : (c == 9) = false := beq_eq_false_iff_ne.2 (by omega)
  have hE := Lib.hid hs
  clear hs
  cases m with
  | false =>
    by_cases h92 : c = 92
    · have b92 : (c == 92) = true := beq_iff_eq.2 h92
      have HQ : Hid (qm false c = [92, c]) := by show _ = _; unfold qm; rw [if_pos (.inl h92)]
      clear h92
      go_enter Try.func30, Try.ntmps30
      go_wp2_with fail
      refine wp_load60 (.tmp 3) hK hE.out rfl rfl ?_
      go_wp2_with (go_at_call 47; refine (HM.out _).mono ?_; rintro e w5 ⟨rfl, hb5⟩; have hz5 := hb5.size)
      rw [conv_blk (b := w5.heap.size) (t := 5) [c] 1 1 rfl (show Blk (w5.alloc (.cells #[.int .u8 c] 5)) w5.heap.size 5 ([c].map (Value.int .u8)).toArray from Blk.new w5 5 _)]
      simp only [Result.andThen]
      rw [Oper.upon_value]
      go_wp2_with fail
      go_ret
      exact ⟨by rw [HQ.out]; rfl, (bl (by go_grown) hb5).alloc (by simp at hz5; omega) _⟩
    · have b92 : (c == 92) = false := beq_eq_false_iff_ne.2 h92
      have HQ : Hid (qm false c = [c]) := by show _ = _; unfold qm; rw [if_neg (by simpa using h92)]
      clear h92
      go_enter Try.func30, Try.ntmps30
      go_wp2_with fail
      refine wp_load60 (.tmp 3) hK hE.out rfl rfl ?_
      go_wp2_with (go_at_call 47; refine (HM.out _).mono ?_; rintro e w5 ⟨rfl, hb5⟩; have hz5 := hb5.size)
      rw [conv_blk (b := w5.heap.size) (t := 5) [c] 1 1 rfl (show Blk (w5.alloc (.cells #[.int .u8 c] 5)) w5.heap.size 5 ([c].map (Value.int .u8)).toArray from Blk.new w5 5 _)]
      simp only [Result.andThen]
      rw [Oper.upon_value]
      go_wp2_with fail
      go_ret
      exact ⟨by rw [HQ.out]; rfl, (bl (by go_grown) hb5).alloc (by simp at hz5; omega) _⟩
  | true =>
    · have HQ : Hid (qm true c = [92, c]) := by show _ = _; unfold qm; rw [if_pos (.inr rfl)]
      go_enter Try.func30, Try.ntmps30
      go_wp2_with fail
      refine wp_load60 (.tmp 3) hK hE.out rfl rfl ?_
      go_wp2_with (go_at_call 47; refine (HM.out _).mono ?_; rintro e w5 ⟨rfl, hb5⟩; have hz5 := hb5.size)
      rw [conv_blk (b := w5.heap.size) (t := 5) [c] 1 1 rfl (show Blk (w5.alloc (.cells #[.int .u8 c] 5)) w5.heap.size 5 ([c].map (Value.int .u8)).toArray from Blk.new w5 5 _)]
      simp only [Result.andThen]
      rw [Oper.upon_value]
      go_wp2_with fail
      go_ret
      exact ⟨by rw [HQ.out]; rfl, (bl (by go_grown) hb5).alloc (by simp at hz5; omega) _⟩


set_option maxHeartbeats 800000 in
theorem rbyte_10 (V : Array Value) (w : World) : Calls Try.prog 30 #[.int .u8 10, .agg V] w fun e w' => e = .returned (.string (strOfNums [92, 110])) ∧ Below w.heap.size w w' := by
  go_enter Try.func30, Try.ntmps30
  go_wp2_with fail
  go_ret
  exact ⟨rfl, by go_grown⟩
set_option maxHeartbeats 800000 in
theorem rbyte_13 (V : Array Value) (w : World) : Calls Try.prog 30 #[.int .u8 13, .agg V] w fun e w' => e = .returned (.string (strOfNums [92, 114])) ∧ Below w.heap.size w w' := by
  go_enter Try.func30, Try.ntmps30
  go_wp2_with fail
  go_ret
  exact ⟨rfl, by go_grown⟩
set_option maxHeartbeats 800000 in
theorem rbyte_9 (V : Array Value) (w : World) : Calls Try.prog 30 #[.int .u8 9, .agg V] w fun e w' => e = .returned (.string (strOfNums [92, 116])) ∧ Below w.heap.size w w' := by
  go_enter Try.func30, Try.ntmps30
  go_wp2_with fail
  go_ret
  exact ⟨rfl, by go_grown⟩

set_option maxRecDepth 100000 in
set_option maxHeartbeats 1600000 in
theorem rbyte_hex (V : Array Value) (c : Int) (w : World) (h0 : 0 ≤ c) (h1 : c ≤ 255) (a : c ≠ 10) (b : c ≠ 13) (d : c ≠ 9) (hx : c < 32 ∨ 126 < c) :
    Calls Try.prog 30 #[.int .u8 c, .agg V] w fun e w' => e = .returned (.string (strOfNums [92, 120, hexd (c / 16), hexd (c % 16)])) ∧ Below w.heap.size w w' := by
  have e10 : (c == 10) = false := beq_eq_false_iff_ne.2 a
  have e13 : (c == 13) = false := beq_eq_false_iff_ne.2 b
  have e9 : (c == 9) = false := beq_eq_false_iff_ne.2 d
  clear a b d
  have H1 := Lib.hid (fun w => hex_low (c / 16) (by omega) (by omega) w)
  have H2 := Lib.hid (fun w => hex_low (c % 16) (by omega) (by omega) w)
  have p0 : 0 ≤ c / 16 := by omega
  have p1 : c / 16 < 16 := by omega
  have p2 : 0 ≤ c % 16 := by omega
  have p3 : c % 16 < 16 := by omega
  have HS : Hid ((⟨#[92, 120]⟩ : ByteArray) ++ strOfNums [hexd (c / 16), hexd (c % 16)] = strOfNums [92, 120, hexd (c / 16), hexd (c % 16)]) := by
    show _ = _
    rw [show (⟨#[92, 120]⟩ : ByteArray) = strOfNums [92, 120] from rfl, str_append]; rfl
  have hs2 := strOfNums_size [hexd (c / 16), hexd (c % 16)]
  simp only [List.length_cons, List.length_nil] at hs2
  by_cases hk : c < 32
  · clear hx
    go_enter Try.func30, Try.ntmps30
    go_wp2_with fail
    refine (H1.out _).mono ?_
    rintro e w5 ⟨rfl, rfl⟩
    go_wp2_with fail
    refine (H2.out _).mono ?_
    rintro e w5 ⟨rfl, rfl⟩
    go_wp2_with fail
    rw [conv_blk (b := w.heap.size + 1) (t := 5) [hexd (c / 16), hexd (c % 16)] 2 2 rfl (by simpa using (Blk.new (w.alloc _) 5 _))]
    simp only [Result.andThen]
    rw [Oper.upon_value]
    go_wp2_with fail
    go_ret
    exact ⟨rfl, by go_grown⟩
  · have hk2 : 126 < c := by omega
    clear hx
    go_enter Try.func30, Try.ntmps30
    go_wp2_with fail
    refine (H1.out _).mono ?_
    rintro e w5 ⟨rfl, rfl⟩
    go_wp2_with fail
    refine (H2.out _).mono ?_
    rintro e w5 ⟨rfl, rfl⟩
    go_wp2_with fail
    rw [conv_blk (b := w.heap.size + 1) (t := 5) [hexd (c / 16), hexd (c % 16)] 2 2 rfl (by simpa using (Blk.new (w.alloc _) 5 _))]
    simp only [Result.andThen]
    rw [Oper.upon_value]
    go_wp2_with fail
    go_ret
    exact ⟨rfl, by go_grown⟩

/-- Byte of the reference. -/
theorem rbyte_any (S : Array Value) (h : Int → Bool) (c : Int) (w : World) (hS : Rs S h) (h0 : 0 ≤ c) (h1 : c ≤ 255) :
    Calls Try.prog 30 #[.int .u8 c, .agg S] w fun e w' => e = .returned (.string (strOfNums (qb (mkr h c) c))) ∧ Below w.heap.size w w' := by
  by_cases a : c = 10
  · subst a; exact rbyte_10 _ w
  by_cases b : c = 13
  · subst b; exact rbyte_13 _ w
  by_cases d : c = 9
  · subst d; exact rbyte_9 _ w
  by_cases hx : c < 32 ∨ 126 < c
  · have e : qb (mkr h c) c = [92, 120, hexd (c / 16), hexd (c % 16)] := by unfold qb; rw [if_neg a, if_neg b, if_neg d, if_pos hx]
    rw [e]; exact rbyte_hex S c w h0 h1 a b d hx
  · have e : qb (mkr h c) c = qm (mkr h c) c := by unfold qb; rw [if_neg a, if_neg b, if_neg d, if_neg hx]; rfl
    rw [e]; exact rbyte_mk S h c w hS (by omega) (by omega)
end Go.Proofs.Ytdgihlelopfdeaa
