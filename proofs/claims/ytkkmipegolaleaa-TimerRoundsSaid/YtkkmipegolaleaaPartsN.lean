/-
  TimerParts where no timeout is there; and the law.
-/
import Derived.Test.YtkkmipegolaleaaParts
namespace Go.Proofs.Ytkkmipegolaleaa
open Go.RowKit T

set_option maxHeartbeats 4000000 in
set_option maxRecDepth 100000 in
theorem parts_nil (A : Option Addr) (c : Nat) (p q : Int) (w : World) (hv : Sb w A []) (hc2 : c ≤ 9223372036854775807) (hp0 : 0 ≤ p) (hp1 : p ≤ 255) (hq0 : 0 ≤ q) (hq1 : q ≤ 255) :
    Calls Try.prog 5 #[.slice A 0 c, .int .u8 p, .int .u8 q] w fun e w' => e = .returned (.bool true) ∧ Below w.heap.size w w' := by
  have hma := made_any [] A c w hv (by simp) hc2
  rw [show made [] = [] from rfl] at hma
  simp only [List.length_nil, List.map_nil] at hma
  have HM := Lib.hid hma
  have ha0 : 0 ≤ p % 21 := by omega
  have ha1 : p % 21 < 21 := by omega
  have hb0 : 0 ≤ q % 21 := by omega
  have hb1 : q % 21 < 21 := by omega
  obtain ⟨m, hm⟩ : ∃ m : Nat, (m : Int) = p % 21 + q % 21 := ⟨(p % 21 + q % 21).toNat, by omega⟩
  have hm40 : m ≤ 40 := by omega
  have Hm := Lib.hid hm
  clear hma hv hm
  go_enter Try.func5, Try.ntmps5
  go_wp2_with fail
  refine HM.out.mono ?_
  rintro e w1 ⟨A', c', rfl, hown, hB1⟩
  clear hown HM
  go_wp2_with fail
  refine (go_nil A' c' 0 (p % 21) _ (sl_nil _ _) (by omega) (by omega) (by omega)).mono ?_
  rintro e w2 ⟨rfl, hb2⟩
  have hB2 := hB1.trans (hb2.mono hB1.size)
  clear hB1 hb2
  go_wp2_with fail
  refine (go_nil A' c' 0 (p % 21 + q % 21) _ (sl_nil _ _) (by omega) (by omega) (by omega)).mono ?_
  rintro e w3 ⟨rfl, hb3⟩
  have hB3 := hB2.trans (hb3.mono hB2.size)
  clear hB2 hb3
  go_wp2_with fail
  refine (new_ok [] A' c' _ (sl_nil _ _) rfl).mono ?_
  rintro e w4 ⟨ta, rfl, hlta, tma, hb4⟩
  replace tma : Tm w4 ta (-1) 0 0 false := tma
  have hB4 := hB3.trans (hb4.mono hB3.size)
  have hta : w.heap.size ≤ ta := by have := hB3.size; omega
  clear hB3 hb4
  go_wp2_with fail
  go_loopw [18, 67] (fun pa v wr => ∃ k : Nat, k ≤ m ∧ v = .int .i64 k ∧ pa = .int .i64 k ∧ Tm wr ta (-1) 0 k false ∧ Below w.heap.size w wr) (fun _ v _ => m - (intOf v).toNat)
  case atStart => exact ⟨0, by omega, rfl, rfl, tma, hB4⟩
  case round =>
    obtain ⟨k, hk, rfl, rfl, tA, hbr⟩ := hrel
    by_cases hlt : k < m
    · have hlti : (k : Int) < p % 21 + q % 21 := by have := Hm.out; omega
      go_wp2_with fail
      refine (tick_none ta (-1) 0 _ _ tA (by omega) (by omega) (by omega)).mono ?_
      rintro e x1 ⟨rfl, og1, tA1⟩
      have X1 := below_only hbr og1 hta hbr.size
      go_wp2_with fail
      go_roundw
      case rel => exact ⟨k + 1, by omega, by go_num, by go_num, tm_cast tA1, X1⟩
      case measure => simp [intOf]; omega
    · have ekm : (k : Int) = p % 21 + q % 21 := by have := Hm.out; omega
      have hnl : ¬ (k : Int) < p % 21 + q % 21 := by omega
      rw [ekm] at tA hnl ⊢
      clear ekm
      go_wp2_with (first | (go_at_call 18; refine (fired_any ta _ _ _ _ _ tA).mono ?_; rintro e w' ⟨rfl, rfl⟩) | (go_at_call 17; refine (at_any ta _ _ _ _ _ tA).mono ?_; rintro e w' ⟨rfl, rfl⟩))
      refine (go_nil A' c' (p % 21) (q % 21) _ (sl_nil _ _) (by omega) (by omega) (by omega)).mono ?_
      rintro e w5 ⟨rfl, hb5⟩
      have hB5 := hbr.trans (hb5.mono hbr.size)
      go_wp2_with (go_at_call 10; refine (awake_any _).mono ?_; rintro e w6 ⟨rfl, hb6⟩)
      go_ret
      exact ⟨rfl, hB5.trans (hb6.mono hB5.size)⟩

theorem parts_any (bs : List Int) (A : Option Addr) (c : Nat) (p q : Int) (w : World) (hv : Sb w A bs) (hc : bs.length ≤ c) (hc2 : c ≤ 9223372036854775807) (hp0 : 0 ≤ p) (hp1 : p ≤ 255) (hq0 : 0 ≤ q) (hq1 : q ≤ 255) :
    Calls Try.prog 5 #[.slice A bs.length c, .int .u8 p, .int .u8 q] w fun e w' => e = .returned (.bool true) ∧ Below w.heap.size w w' := by
  by_cases h : bs = []
  · subst h; exact parts_nil A c p q w hv hc2 hp0 hp1 hq0 hq1
  · exact parts_ok bs A c p q w hv hc hc2 hp0 hp1 hq0 hq1 (by intro e; have := made_len bs; rw [e] at this; have := List.length_pos_iff.2 h; simp at *; omega)
end Go.Proofs.Ytkkmipegolaleaa
