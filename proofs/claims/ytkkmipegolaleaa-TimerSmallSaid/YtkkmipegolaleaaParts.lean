/-
  TimerParts: ticks that pass in two parts.
-/
import Derived.Test.YtkkmipegolaleaaLeastN
namespace Go.Proofs.Ytkkmipegolaleaa
open Go.RowKit T

/-- A list that lies below block B. -/
def Slb (w : World) (B : Nat) (A : Option Addr) (zs : List Int) : Prop := zs.length ≤ 9223372036854775807 ∧ B ≤ w.heap.size ∧ Reads w B 1 A zs.length (zs.map (Value.int .i64))
theorem Sl.slb {w : World} {A : Option Addr} {zs : List Int} (h : Sl w A zs) : Slb w w.heap.size A zs := ⟨h.1, Nat.le_refl _, h.2⟩
theorem Slb.sl {w : World} {B : Nat} {A : Option Addr} {zs : List Int} (h : Slb w B A zs) : Sl w A zs := ⟨h.1, h.2.2.more h.2.1⟩
theorem Slb.below {w w1 : World} {B : Nat} {A : Option Addr} {zs : List Int} (h : Slb w B A zs) (hb : Below w.heap.size w w1) : Slb w1 B A zs :=
  ⟨h.1, Nat.le_trans h.2.1 hb.size, h.2.2.keep fun p hp => hb.cell (Nat.lt_of_lt_of_le hp h.2.1)⟩
theorem Slb.only {w w1 : World} {B t : Nat} {A : Option Addr} {zs : List Int} (h : Slb w B A zs) (hg : w.grownBy w1 (some t)) (ht : B ≤ t) : Slb w1 B A zs :=
  ⟨h.1, Nat.le_trans h.2.1 hg.size, h.2.2.keep fun p hp => World.cell?_of_block (hg.block p.block (Nat.lt_of_lt_of_le hp h.2.1) (fun e => by injection e with e; omega))⟩

def cnt (t : Int) (k : Nat) : Int := if (k : Int) < t then k else t
theorem cnt_step {t : Int} {k : Nat} (h : (k : Int) < t) : cnt t (k + 1) = cnt t k + 1 := by unfold cnt; rw [if_pos h]; split <;> omega
theorem cnt_stay {t : Int} {k : Nat} (h : ¬ (k : Int) < t) : cnt t (k + 1) = cnt t k := by unfold cnt; rw [if_neg h, if_neg (by omega)]
theorem cnt_bd {t : Int} {k : Nat} (h : 0 ≤ t) : 0 ≤ cnt t k ∧ cnt t k ≤ k := by unfold cnt; split <;> omega

set_option maxHeartbeats 4000000 in
set_option maxRecDepth 100000 in
theorem parts_some (bs : List Int) (A : Option Addr) (c : Nat) (p q : Int) (w : World) (hv : Sb w A bs) (hc : bs.length ≤ c) (hc2 : c ≤ 9223372036854775807) (hp0 : 0 ≤ p) (hp1 : p ≤ 255) (hq0 : 0 ≤ q) (hq1 : q ≤ 255)
    (zs : List Int) (hz : made bs = zs) (hcz : chk zs = 0) (i : Nat) (t : Int) (hx : ix zs = i) (ht : tk zs = t) (ht1 : 1 ≤ t) (ht2 : t ≤ 1000)
    (x : Int) (first : Bool) (z : Int) (whole : Bool) (y : Int) (second : Bool) (f : Int) (hf : f = 0 ∨ f = 341) (m : Nat) (hm : (m : Int) = p % 21 + q % 21)
    (g1 : GoIs zs 0 (p % 21) x first 0) (g2 : GoIs zs 0 (p % 21 + q % 21) z whole 0) (g3 : GoIs zs x (q % 21) y second f) (hzz : z = cnt t m) (hww : whole = if (m : Int) < t then false else true)
    (hfin : (first = true ∧ f = 341 ∧ y = 0 ∧ z = x ∧ whole = true) ∨ (first = false ∧ f = 0 ∧ x = p % 21 ∧ x + y = z ∧ second = whole)) (hyb : 0 ≤ y ∧ y ≤ 1000 ∧ 0 ≤ x ∧ x ≤ 1000) :
    Calls Try.prog 5 #[.slice A bs.length c, .int .u8 p, .int .u8 q] w fun e w' => e = .returned (.bool true) ∧ Below w.heap.size w w' := by
  have hma := made_any bs A c w hv hc hc2
  rw [hz] at hma
  have HM := Lib.hid hma
  have HC := Lib.hid hcz
  have HX := Lib.hid hx
  have HT := Lib.hid ht
  have hl12 : zs.length ≤ 12 := (chk_ok hcz).1
  have HZZ := Lib.hid hzz
  have HWW := Lib.hid hww
  have Hm := Lib.hid hm
  have ha0 : 0 ≤ p % 21 := by omega
  have ha1 : p % 21 < 21 := by omega
  have hb0 : 0 ≤ q % 21 := by omega
  have hb1 : q % 21 < 21 := by omega
  have hm40 : m ≤ 40 := by omega
  have hy0 := hyb.1
  have hy1 := hyb.2.1
  have hx0 := hyb.2.2.1
  have hx1 := hyb.2.2.2
  clear hma hz hcz hx ht hv hzz hww hm hf hyb
  rcases hfin with ⟨rfl, rfl, rfl, rfl, rfl⟩ | ⟨rfl, rfl, rfl, rfl, rfl⟩
  all_goals
    go_enter Try.func5, Try.ntmps5
    go_wp2_with fail
    refine HM.out.mono ?_
    rintro e w1 ⟨A', c', rfl, hown, hB1⟩
    have hv1 := own_sl hown (by omega)
    clear hown HM
    go_wp2_with fail
    refine (g1 A' c' _ hv1).mono ?_
    rintro e w2 ⟨rfl, hb2⟩
    have hv2 := hv1.below hb2
    have hB2 := hB1.trans (hb2.mono hB1.size)
    clear hv1 hB1 hb2
    go_wp2_with fail
    refine (g2 A' c' _ hv2).mono ?_
    rintro e w3 ⟨rfl, hb3⟩
    have hv3 := hv2.below hb3
    have hB3 := hB2.trans (hb3.mono hB2.size)
    clear hv2 hB2 hb3
    go_wp2_with fail
    refine (new_ok zs A' c' _ hv3 HC.out).mono ?_
    rintro e w4 ⟨ta, rfl, hlta, tma, hb4⟩
    rw [HX.out, HT.out] at tma
    have hv4 := hv3.slb.below hb4
    have hB4 := hB3.trans (hb4.mono hB3.size)
    have hta : w.heap.size ≤ ta := by have := hB3.size; omega
    clear hv3 hB3 hb4 HX HT
    go_wp2_with fail
    go_loopw [18, 67] (fun pa v wr => ∃ k : Nat, k ≤ m ∧ v = .int .i64 k ∧ pa = .int .i64 (cnt t k) ∧ TmN wr ta i t k ∧ Slb wr w3.heap.size A' zs ∧ Below w.heap.size w wr) (fun _ v _ => m - (intOf v).toNat)
    case atStart => exact ⟨0, by omega, rfl, by simp [cnt]; omega, tm_start tma (by omega), hv4, hB4⟩
    case round =>
      obtain ⟨k, hk, rfl, rfl, tA, hvr, hbr⟩ := hrel
      have hcb := cnt_bd (t := t) (k := k) (by omega)
      by_cases hlt : k < m
      · have hlti : (k : Int) < p % 21 + q % 21 := by have := Hm.out; omega
        by_cases hke : (k : Int) + 1 < t
        · replace tA := tA.early (by omega)
          have CS := Lib.hid (cnt_step (t := t) (k := k) (by omega))
          go_wp2_with fail
          refine (tick_early ta (i : Int) t _ _ tA (by omega) (by omega) (by omega) (by omega)).mono ?_
          rintro e x1 ⟨rfl, og1, tA1⟩
          have X1 := below_only hbr og1 hta hbr.size
          have hv5 := hvr.only og1 hlta
          go_wp2_with fail
          go_roundw
          case rel => exact ⟨k + 1, by omega, by go_num, by rw [CS.out], tm_early tA1 (by omega), hv5, X1⟩
          case measure => simp [intOf]; omega
        · by_cases hkt : (k : Int) + 1 = t
          · replace tA := tA.early (by omega)
            have CS := Lib.hid (cnt_step (t := t) (k := k) (by omega))
            have HK := Lib.hid hkt
            clear hkt
            go_wp2_with fail
            refine (tick_fires ta (i : Int) t _ _ tA (by omega) (by omega) (by omega) HK.out).mono ?_
            rintro e x1 ⟨rfl, og1, tA1⟩
            have X1 := below_only hbr og1 hta hbr.size
            have hv5 := hvr.only og1 hlta
            go_wp2_with fail
            go_roundw
            case rel => exact ⟨k + 1, by omega, by go_num, by rw [CS.out], tm_fires tA1 HK.out, hv5, X1⟩
            case measure => simp [intOf]; omega
          · replace tA := tA.late (by omega)
            have CS := Lib.hid (cnt_stay (t := t) (k := k) (by omega))
            go_wp2_with fail
            refine (tick_fired ta (i : Int) t _ _ tA).mono ?_
            rintro e x1 ⟨rfl, rfl⟩
            go_wp2_with fail
            go_roundw
            case rel => exact ⟨k + 1, by omega, by go_num, by rw [CS.out], tm_fired tA (by omega), hvr, hbr⟩
            case measure => simp [intOf]; omega
      · have ekm : k = m := by omega
        subst ekm
        have hnl : ¬ (k : Int) < p % 21 + q % 21 := by have := Hm.out; omega
        unfold TmN at tA
        rw [← HWW.out] at tA
        have hz' := HZZ.out
        unfold cnt at hz'
        rw [← hz'] at tA
        rw [← HZZ.out]
        clear hz'
        clear hcb
        go_wp2_with (first | (go_at_call 18; refine (fired_any ta _ _ _ _ _ tA).mono ?_; rintro e w' ⟨rfl, rfl⟩) | (go_at_call 17; refine (at_any ta _ _ _ _ _ tA).mono ?_; rintro e w' ⟨rfl, rfl⟩))
        refine (g3 A' c' _ hvr.sl).mono ?_
        rintro e w5 ⟨rfl, hb5⟩
        have hB5 := hbr.trans (hb5.mono hbr.size)
        go_wp2_with (go_at_call 10; refine (awake_any _).mono ?_; rintro e w6 ⟨rfl, hb6⟩)
        go_ret
        exact ⟨rfl, hB5.trans (hb6.mono hB5.size)⟩

theorem min_cnt {t : Int} {m : Nat} : min (m : Int) t = cnt t m := by unfold cnt; split <;> omega

theorem parts_ok (bs : List Int) (A : Option Addr) (c : Nat) (p q : Int) (w : World) (hv : Sb w A bs) (hc : bs.length ≤ c) (hc2 : c ≤ 9223372036854775807) (hp0 : 0 ≤ p) (hp1 : p ≤ 255) (hq0 : 0 ≤ q) (hq1 : q ≤ 255) (hne : made bs ≠ []) :
    Calls Try.prog 5 #[.slice A bs.length c, .int .u8 p, .int .u8 q] w fun e w' => e = .returned (.bool true) ∧ Below w.heap.size w w' := by
  have hcz := made_chk bs
  have hx := ix_nonneg hne
  have ht := tk_of hne
  have htr := tk_range hne hcz
  rw [ht] at htr
  generalize hz : made bs = zs at *
  generalize hi : am zs zs.length = i at *
  generalize hg : zs.getD i 0 = t at *
  have hi0 : 0 ≤ ix zs := by rw [hx]; omega
  have ga : ∀ n : Int, 0 ≤ n → GoIs zs 0 n (min n t) (decide (t ≤ n)) 0 := fun n hn A c w hv => by
    have := go_some zs A c 0 n w hv hcz i t hx ht (by omega) hn (by omega) (by omega) (by omega) htr.2
    rw [Int.sub_zero] at this
    exact this
  obtain ⟨m, hm⟩ : ∃ m : Nat, (m : Int) = p % 21 + q % 21 := ⟨(p % 21 + q % 21).toNat, by omega⟩
  have g1 := ga (p % 21) (by omega)
  have g2 := ga (p % 21 + q % 21) (by omega)
  have e2 : min (p % 21 + q % 21) t = cnt t m := by rw [← hm]; exact min_cnt
  have e3 : decide (t ≤ p % 21 + q % 21) = if (m : Int) < t then false else true := by
    rw [← hm]
    split
    · rw [decide_eq_false_iff_not]; omega
    · rw [decide_eq_true_eq]; omega
  by_cases hta : t ≤ p % 21
  · rw [decide_eq_true hta, show min (p % 21) t = t by omega] at g1
    have g3 : GoIs zs t (q % 21) 0 false 341 := fun A c w hv => go_over zs A c t (q % 21) w hv hcz i t hx ht (by omega) (by omega) (by omega) (by omega) (by omega)
    refine parts_some bs A c p q w hv hc hc2 hp0 hp1 hq0 hq1 zs hz hcz i t hx ht htr.1 htr.2 t true _ _ 0 false 341 (.inr rfl) m hm g1 g2 g3 e2 e3 (.inl ⟨rfl, rfl, rfl, ?_, ?_⟩) (by omega)
    · omega
    · rw [decide_eq_true_eq]; omega
  · rw [decide_eq_false hta, show min (p % 21) t = p % 21 by omega] at g1
    have g3 : GoIs zs (p % 21) (q % 21) (min (q % 21) (t - p % 21)) (decide (t - p % 21 ≤ q % 21)) 0 := fun A c w hv => go_some zs A c (p % 21) (q % 21) w hv hcz i t hx ht (by omega) (by omega) (by omega) (by omega) (by omega) htr.2
    refine parts_some bs A c p q w hv hc hc2 hp0 hp1 hq0 hq1 zs hz hcz i t hx ht htr.1 htr.2 (p % 21) false _ _ _ _ 0 (.inl rfl) m hm g1 g2 g3 e2 e3 (.inr ⟨rfl, rfl, rfl, ?_, ?_⟩) (by omega)
    · omega
    · congr 1; exact propext ⟨fun h => by omega, fun h => by omega⟩
end Go.Proofs.Ytkkmipegolaleaa
