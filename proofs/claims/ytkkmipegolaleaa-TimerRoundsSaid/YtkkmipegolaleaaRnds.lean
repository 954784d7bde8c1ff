/-
  TimerRounds: a state that is entered again by its own timeout.
-/
import Derived.Test.YtkkmipegolaleaaPartsN
namespace Go.Proofs.Ytkkmipegolaleaa
open Go.RowKit T

theorem div_fire {t : Int} {k : Nat} (ht : 1 ≤ t) (h : (k : Int) % t + 1 = t) : ((k : Int) + 1) / t = (k : Int) / t + 1 ∧ ((k : Int) + 1) % t = 0 := by
  have e := Int.mul_ediv_add_emod (k : Int) t
  have e2 : (k : Int) + 1 = t * ((k : Int) / t + 1) := by rw [Int.mul_add, Int.mul_one]; omega
  rw [e2]
  exact ⟨Int.mul_ediv_cancel_left _ (by omega), Int.mul_emod_right _ _⟩
theorem div_stay {t : Int} {k : Nat} (ht : 1 ≤ t) (h : ¬ (k : Int) % t + 1 = t) : ((k : Int) + 1) / t = (k : Int) / t ∧ ((k : Int) + 1) % t = (k : Int) % t + 1 := by
  have e := Int.mul_ediv_add_emod (k : Int) t
  have l0 := Int.emod_nonneg (k : Int) (show t ≠ 0 by omega)
  have l1 := Int.emod_lt_of_pos (k : Int) (show 0 < t by omega)
  have e2 : (k : Int) + 1 = ((k : Int) % t + 1) + t * ((k : Int) / t) := by omega
  constructor
  · rw [e2, Int.add_mul_ediv_left _ _ (by omega), Int.ediv_eq_zero_of_lt (by omega) (by omega), Int.zero_add]
  · rw [e2, Int.add_mul_emod_self_left]
    exact Int.emod_eq_of_lt (by omega) (by omega)

set_option maxHeartbeats 4000000 in
set_option maxRecDepth 100000 in
theorem rnds_some (bs : List Int) (A : Option Addr) (c : Nat) (n : Nat) (w : World) (hv : Sb w A bs) (hc : bs.length ≤ c) (hc2 : c ≤ 9223372036854775807) (hn1 : n ≤ 255)
    (zs : List Int) (hz : made bs = zs) (hcz : chk zs = 0) (i : Nat) (t : Int) (hx : ix zs = i) (ht : tk zs = t) (ht1 : 1 ≤ t) (ht2 : t ≤ 1000) :
    Calls Try.prog 6 #[.slice A bs.length c, .int .u8 n] w fun e w' => e = .returned (.bool true) ∧ Below w.heap.size w w' := by
  have hma := made_any bs A c w hv hc hc2
  rw [hz] at hma
  have HM := Lib.hid hma
  have HC := Lib.hid hcz
  have HX := Lib.hid hx
  have HT := Lib.hid ht
  have hl12 : zs.length ≤ 12 := (chk_ok hcz).1
  clear hma hz hcz hx ht hv
  go_enter Try.func6, Try.ntmps6
  go_wp2_with fail
  refine HM.out.mono ?_
  rintro e w1 ⟨A', c', rfl, hown, hB1⟩
  have hv1 := own_sl hown (by omega)
  clear hown HM
  go_wp2_with fail
  refine (rounds_some zs A' c' n _ hv1 HC.out i t HX.out HT.out (by omega) (by omega) (by omega) ht1 ht2).mono ?_
  rintro e w2 ⟨rfl, hb2⟩
  have hv2 := hv1.below hb2
  have hB2 := hB1.trans (hb2.mono hB1.size)
  clear hv1 hB1 hb2
  go_wp2_with fail
  refine (new_ok zs A' c' _ hv2 HC.out).mono ?_
  rintro e w4 ⟨ta, rfl, hlta, tma, hb4⟩
  rw [HX.out, HT.out] at tma
  have hv4 := hv2.slb.below hb4
  have hB4 := hB2.trans (hb4.mono hB2.size)
  have hta : w.heap.size ≤ ta := by have := hB2.size; omega
  clear hv2 hB2 hb4
  go_wp2_with fail
  go_loopw [11, 39] (fun pa v wr => ∃ k : Nat, k ≤ n ∧ v = .int .u8 k ∧ pa = .int .i64 ((k : Int) / t) ∧ Tm wr ta i t ((k : Int) % t) false ∧ Slb wr w2.heap.size A' zs ∧ Below w.heap.size w wr) (fun _ v _ => n - (intOf v).toNat)
  case atStart => exact ⟨0, by omega, rfl, by simp, by simpa using tma, hv4, hB4⟩
  case round =>
    obtain ⟨k, hk, rfl, rfl, tA, hvr, hbr⟩ := hrel
    have l0 := Int.emod_nonneg (k : Int) (show t ≠ 0 by omega)
    have l1 := Int.emod_lt_of_pos (k : Int) (show 0 < t by omega)
    have d0 : 0 ≤ (k : Int) / t := Int.ediv_nonneg (by omega) (by omega)
    have d1 : (k : Int) / t ≤ k := Int.ediv_le_self _ (by omega)
    by_cases hlt : k < n
    · by_cases hf : (k : Int) % t + 1 = t
      · have D := Lib.hid (div_fire ht1 hf)
        have HF := Lib.hid hf
        clear hf
        go_wp2_with fail
        refine (tick_fires ta (i : Int) t _ _ tA (by omega) (by omega) (by omega) HF.out).mono ?_
        rintro e x1 ⟨rfl, og1, tA1⟩
        have X1 := below_only hbr og1 hta hbr.size
        have hv5 := hvr.only og1 hlta
        go_wp2_with fail
        refine (enter_ok zs A' c' ta _ _ _ _ _ tA1 hv5.sl HC.out).mono ?_
        rintro e x2 ⟨rfl, og2, tA2⟩
        rw [HX.out, HT.out] at tA2
        have X2 := below_only X1 og2 hta X1.size
        have hv6 := hv5.only og2 hlta
        go_wp2_with fail
        go_roundw
        case rel => exact ⟨k + 1, by omega, by go_num, by rw [show ((k + 1 : Nat) : Int) = (k : Int) + 1 by omega, D.out.1], by rw [show ((k + 1 : Nat) : Int) = (k : Int) + 1 by omega, D.out.2]; exact tA2, hv6, X2⟩
        case measure => simp [intOf]; omega
      · have D := Lib.hid (div_stay ht1 hf)
        have HF := Lib.hid hf
        clear hf
        go_wp2_with fail
        refine (tick_early ta (i : Int) t _ _ tA (by omega) (by omega) (by omega) HF.out).mono ?_
        rintro e x1 ⟨rfl, og1, tA1⟩
        have X1 := below_only hbr og1 hta hbr.size
        have hv5 := hvr.only og1 hlta
        go_wp2_with fail
        go_roundw
        case rel => exact ⟨k + 1, by omega, by go_num, by rw [show ((k + 1 : Nat) : Int) = (k : Int) + 1 by omega, D.out.1], by rw [show ((k + 1 : Nat) : Int) = (k : Int) + 1 by omega, D.out.2]; exact tA1, hv5, X1⟩
        case measure => simp [intOf]; omega
    · have ekn : k = n := by omega
      subst ekn
      go_wp2_with (first | (go_at_call 17; refine (at_any ta _ _ _ _ _ tA).mono ?_; rintro e w' ⟨rfl, rfl⟩) | (go_at_call 10; refine (awake_any _).mono ?_; rintro e w6 ⟨rfl, hb6⟩))
      go_ret
      exact ⟨rfl, hbr.trans (hb6.mono hbr.size)⟩

set_option maxHeartbeats 4000000 in
set_option maxRecDepth 100000 in
theorem rnds_nil (A : Option Addr) (c : Nat) (n : Nat) (w : World) (hv : Sb w A []) (hc2 : c ≤ 9223372036854775807) (hn1 : n ≤ 255) :
    Calls Try.prog 6 #[.slice A 0 c, .int .u8 n] w fun e w' => e = .returned (.bool true) ∧ Below w.heap.size w w' := by
  have hma := made_any [] A c w hv (by simp) hc2
  rw [show made [] = [] from rfl] at hma
  simp only [List.length_nil, List.map_nil] at hma
  have HM := Lib.hid hma
  clear hma hv
  go_enter Try.func6, Try.ntmps6
  go_wp2_with fail
  refine HM.out.mono ?_
  rintro e w1 ⟨A', c', rfl, hown, hB1⟩
  clear hown HM
  go_wp2_with fail
  refine (rounds_nil A' c' n _ (sl_nil _ _) (by omega)).mono ?_
  rintro e w2 ⟨rfl, hb2⟩
  have hB2 := hB1.trans (hb2.mono hB1.size)
  clear hB1 hb2
  go_wp2_with fail
  refine (new_ok [] A' c' _ (sl_nil _ _) rfl).mono ?_
  rintro e w4 ⟨ta, rfl, hlta, tma, hb4⟩
  replace tma : Tm w4 ta (-1) 0 0 false := tma
  have hB4 := hB2.trans (hb4.mono hB2.size)
  have hta : w.heap.size ≤ ta := by have := hB2.size; omega
  clear hB2 hb4
  go_wp2_with fail
  go_loopw [11, 39] (fun pa v wr => ∃ k : Nat, k ≤ n ∧ v = .int .u8 k ∧ pa = .int .i64 0 ∧ Tm wr ta (-1) 0 k false ∧ Below w.heap.size w wr) (fun _ v _ => n - (intOf v).toNat)
  case atStart => exact ⟨0, by omega, rfl, rfl, tma, hB4⟩
  case round =>
    obtain ⟨k, hk, rfl, rfl, tA, hbr⟩ := hrel
    by_cases hlt : k < n
    · go_wp2_with fail
      refine (tick_none ta (-1) 0 _ _ tA (by omega) (by omega) (by omega)).mono ?_
      rintro e x1 ⟨rfl, og1, tA1⟩
      have X1 := below_only hbr og1 hta hbr.size
      go_wp2_with fail
      go_roundw
      case rel => exact ⟨k + 1, by omega, by go_num, rfl, tm_cast tA1, X1⟩
      case measure => simp [intOf]; omega
    · have ekn : k = n := by omega
      subst ekn
      go_wp2_with (first | (go_at_call 17; refine (at_any ta _ _ _ _ _ tA).mono ?_; rintro e w' ⟨rfl, rfl⟩) | (go_at_call 10; refine (awake_any _).mono ?_; rintro e w6 ⟨rfl, hb6⟩))
      go_ret
      exact ⟨rfl, hbr.trans (hb6.mono hbr.size)⟩

theorem rnds_any (bs : List Int) (A : Option Addr) (c : Nat) (n : Int) (w : World) (hv : Sb w A bs) (hc : bs.length ≤ c) (hc2 : c ≤ 9223372036854775807) (hn0 : 0 ≤ n) (hn1 : n ≤ 255) :
    Calls Try.prog 6 #[.slice A bs.length c, .int .u8 n] w fun e w' => e = .returned (.bool true) ∧ Below w.heap.size w w' := by
  obtain ⟨m, rfl⟩ := Int.eq_ofNat_of_zero_le hn0
  by_cases h : bs = []
  · subst h; exact rnds_nil A c m w hv hc2 (by omega)
  · have hne : made bs ≠ [] := by intro e; have := made_len bs; rw [e] at this; have := List.length_pos_iff.2 h; simp at *; omega
    have hcz := made_chk bs
    have ht := tk_of hne
    have htr := tk_range hne hcz
    rw [ht] at htr
    exact rnds_some bs A c m w hv hc hc2 (by omega) _ rfl hcz _ _ (ix_nonneg hne) ht htr.1 htr.2
end Go.Proofs.Ytkkmipegolaleaa
