/-
  TimerLeast: where no timeout is there; and the law.
-/
import Derived.Test.YtkkmipegolaleaaLeast
namespace Go.Proofs.Ytkkmipegolaleaa
open Go.RowKit T

theorem tm_cast {w : World} {b : Nat} {i t : Int} {k : Nat} {f : Bool} (h : Tm w b i t ((k : Int) + 1) f) : Tm w b i t ((k + 1 : Nat) : Int) f := by rw [show ((k + 1 : Nat) : Int) = (k : Int) + 1 by omega]; exact h
theorem sl_nil (w : World) (A : Option Addr) : Sl w A [] := ⟨by simp, by simp, fun h => absurd h (by simp)⟩

set_option maxHeartbeats 4000000 in
set_option maxRecDepth 100000 in
theorem least_nil (A : Option Addr) (c : Nat) (n : Int) (w : World) (hv : Sb w A []) (hc2 : c ≤ 9223372036854775807) (hn0 : 0 ≤ n) (hn1 : n ≤ 255) :
    Calls Try.prog 4 #[.slice A 0 c, .int .u8 n] w fun e w' => e = .returned (.bool true) ∧ Below w.heap.size w w' := by
  have hma := made_any [] A c w hv (by simp) hc2
  rw [show made [] = [] from rfl] at hma
  simp only [List.length_nil, List.map_nil] at hma
  have HM := Lib.hid hma
  clear hma hv
  go_enter Try.func4, Try.ntmps4
  go_wp2_with fail
  refine HM.out.mono ?_
  rintro e w1 ⟨A', c', rfl, hown, hB1⟩
  clear hown HM
  go_wp2_with fail
  refine (first_nil A' c' _ (sl_nil _ _)).mono ?_
  rintro e w2 ⟨rfl, hb2⟩
  have hB2 := hB1.trans (hb2.mono hB1.size)
  clear hB1 hb2
  go_wp2_with fail
  refine (only_nil A' c' _ (sl_nil _ _)).mono ?_
  rintro e w3 ⟨rfl, hb3⟩
  have hB3 := hB2.trans (hb3.mono hB2.size)
  clear hB2 hb3
  go_wp2_with fail
  refine (new_ok [] A' c' _ (sl_nil _ _) rfl).mono ?_
  rintro e w4 ⟨ta, rfl, hlta, tma, hb4⟩
  have hB4 := hB3.trans (hb4.mono hB3.size)
  have hta : w.heap.size ≤ ta := by have := hB3.size; omega
  replace tma : Tm w4 ta (-1) 0 0 false := tma
  clear hB3 hb4
  go_wp2_with fail
  refine (new_ok [] none 0 _ (sl_nil _ _) rfl).mono ?_
  rintro e w5 ⟨tb, rfl, hltb, tmb, hb5⟩
  have hB5 := hB4.trans (hb5.mono hB4.size)
  have tma5 := tma.below hb5
  replace tmb : Tm w5 tb (-1) 0 0 false := tmb
  have htb : w.heap.size ≤ tb := by have := hB4.size; omega
  have htab : ¬ ta = tb := by have := tma.lt; omega
  clear hB4 hb5 tma
  have hwz : IntKind.i64.wrap 0 = 0 := by decide
  go_wp2_with fail
  go_quiet (fail)
  clear hwz
  have tma6 : Tm (w5.drewN nq) ta (-1) 0 0 false := tma5
  have tmb6 : Tm (w5.drewN nq) tb (-1) 0 0 false := tmb
  have hB6 := below_drewN hB5 nq
  clear tma5 tmb hB5
  generalize hw6 : w5.drewN nq = w6 at *
  clear hw6
  go_wp2_with fail
  refine wp_loop_rounds 1 ?_
  rw [rounds_succ]
  go_wp2_with fail
  go_loopw [132] (fun v wr => ∃ k : Nat, (k : Int) ≤ n % 41 ∧ v = .int .u8 k ∧ Tm wr ta (-1) 0 k false ∧ Tm wr tb (-1) 0 k false ∧ Below w.heap.size w wr) (fun v _ => (n % 41).toNat - (intOf v).toNat)
  case atStart => exact ⟨0, by omega, rfl, tma6, tmb6, hB6⟩
  case round =>
    obtain ⟨k, hk, rfl, tA, tB, hbr⟩ := hrel
    have hq : n % 41 < 41 := by omega
    by_cases hlt : (k : Int) < n % 41
    · have hk40 : k ≤ 40 := by omega
      go_wp2_with fail
      refine (tick_none ta (-1) 0 _ _ tA (by omega) (by omega) (by omega)).mono ?_
      rintro e x1 ⟨rfl, og1, tA1⟩
      have tB1 := tB.only og1 (by omega)
      have X1 := below_only hbr og1 hta hbr.size
      clear tA tB hbr og1
      go_wp2_with fail
      refine (tick_none tb (-1) 0 _ _ tB1 (by omega) (by omega) (by omega)).mono ?_
      rintro e x2 ⟨rfl, og2, tB2⟩
      have tA2 := tA1.only og2 (by omega)
      have X2 := below_only X1 og2 htb X1.size
      clear tA1 tB1 X1 og2
      go_wp2_with fail
      refine (left_not ta (-1) 0 _ false _ tA2 (.inl (by omega))).mono ?_
      rintro e x3 ⟨rfl, hb3⟩
      have tA3 := tA2.below hb3
      have tB3 := tB2.below hb3
      have X3 := X2.trans (hb3.mono X2.size)
      clear tA2 tB2 X2 hb3
      go_wp2_with fail
      refine (left_not tb (-1) 0 _ false _ tB3 (.inl (by omega))).mono ?_
      rintro e x4 ⟨rfl, hb4⟩
      have tA4 := tA3.below hb4
      have tB4 := tB3.below hb4
      have X4 := X3.trans (hb4.mono X3.size)
      clear tA3 tB3 X3 hb4
      go_wp2_with (first | (go_at_call_of 17 (Value.pointer (some ⟨ta, 0, none⟩)); refine (at_any ta _ _ _ _ _ tA4).mono ?_; rintro e w' ⟨rfl, rfl⟩) | (go_at_call_of 17 (Value.pointer (some ⟨tb, 0, none⟩)); refine (at_any tb _ _ _ _ _ tB4).mono ?_; rintro e w' ⟨rfl, rfl⟩) | (go_at_call_of 18 (Value.pointer (some ⟨ta, 0, none⟩)); refine (fired_any ta _ _ _ _ _ tA4).mono ?_; rintro e w' ⟨rfl, rfl⟩) | (go_at_call_of 18 (Value.pointer (some ⟨tb, 0, none⟩)); refine (fired_any tb _ _ _ _ _ tB4).mono ?_; rintro e w' ⟨rfl, rfl⟩))
      go_roundw
      case rel => exact ⟨k + 1, by omega, by go_num, tm_cast tA4, tm_cast tB4, X4⟩
      case measure => simp [intOf]; omega

    · go_wp2_with (go_at_call 10; refine (awake_any _).mono ?_; rintro e w1 ⟨rfl, hb1⟩)
      go_ret
      exact ⟨rfl, hbr.trans (hb1.mono hbr.size)⟩

theorem least_any (bs : List Int) (A : Option Addr) (c : Nat) (n : Int) (w : World) (hv : Sb w A bs) (hc : bs.length ≤ c) (hc2 : c ≤ 9223372036854775807) (hn0 : 0 ≤ n) (hn1 : n ≤ 255) :
    Calls Try.prog 4 #[.slice A bs.length c, .int .u8 n] w fun e w' => e = .returned (.bool true) ∧ Below w.heap.size w w' := by
  by_cases h : bs = []
  · subst h; exact least_nil A c n w hv hc2 hn0 hn1
  · exact least_some bs A c n w hv hc hc2 (List.length_pos_iff.2 h) hn0 hn1
end Go.Proofs.Ytkkmipegolaleaa
